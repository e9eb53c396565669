/- The reference's scope: entry, place, found. -/
import Derived.Test.YtcaifihdbcjakaaGreatVR1
namespace Go.Proofs.YtcaifihdbcjakaaGreat
set_option linter.unusedVariables false
set_option linter.unusedSimpArgs false
open Go.RowKit

section
variable {P : Program} {ops : Array Oper} {rest : List Oper} {o : Oper} {a : Act} {w : World} {Q : Exit → Act → World → Prop}
theorem wpList_push1 (hgd : o.guard = none) (s xo : Operand) (t : TypeId) (ho : o.op = .call { callee := .builtin .append, args := #[s, xo], argTypes := #[t, t] })
    (base : Nat) (e : TypeId) (z : Value) (bytes : Nat) (ht : P.underlying t = some (.slice e)) (hi : (P.info? e).map (fun i => (i.zero, i.size, i.bytes)) = some (some z, 1, bytes)) (hz : z.cells.size = 1)
    (v : Value) (n : Nat) (xs : List Value) (hs : a.eval s = v) (hown : w.ownsRow base e 1 v n xs)
    (x : Value) (m : Nat) (hm : w.heap.size = m) (hx : a.eval xo = .slice (some ⟨m, 0, none⟩) 1 1) (hx1 : x.oneCell' = true)
    (hn : n + 1 ≤ maxLen) (hbytes : (n + 1) * bytes ≤ 140737488355328) (hbase : base ≤ w.heap.size)
    (h : ∀ g cap w', base ≤ g → w'.ownsRow base e 1 (.slice (some ⟨g, 0, none⟩) (n + 1) cap) (n + 1) (xs ++ [x]) → Kp v.ownBlock.toList w w' → (v.ownBlock = some g ∨ w.heap.size ≤ g) → wpList P ops Q rest (a.put o.dst (.slice (some ⟨g, 0, none⟩) (n + 1) cap)) w') :
    wpList P ops Q (o :: rest) a (w.alloc (.cells #[x] e)) := by
  subst hm
  obtain ⟨i0, hi0, hz0, hz1, hz2⟩ := info_parts hi
  have hown1 := hown.alloc (.cells #[x] e)
  refine wpList_append_own_at _ hgd s xo t ho base e i0 z 1 bytes ht hi0 hz0 hz1 hz2 hz (by decide) v n xs hs hown1 ⟨w.heap.size, 0, none⟩ 1 1 [x] hx rfl (cell_one_new _ _ _) (fun u hu => by simp at hu; subst hu; exact hx1) hn hbytes (by simp; omega) ?_
  intro v' w1 hown' hgrow hnil hloc
  have hk : Kp v.ownBlock.toList w w1 := ((Kp.refl _ w).alloc _).grown hgrow (fun b hb => by rw [hb]; simp)
  rcases hown'.2 with ⟨_, h0⟩ | ⟨g, cap, cur, rfl, hg, _⟩
  · omega
  · exact h g cap w1 hg hown' hk (by rcases hloc with e | e; exact .inl e.symm; exact .inr (by simp [Value.ownBlock] at e; omega))
end

/-- A row stays. -/
theorem ownsRow_kp {w w' : World} {B : Nat} {e : TypeId} {v : Value} {n : Nat} {xs : List Value} (h : w.ownsRow B e 1 v n xs) {D : List Nat} (hk : Kp D w w') (hd : ∀ b, v.ownBlock = some b → b ∉ D) : w'.ownsRow B e 1 v n xs := by
  refine ⟨h.1, ?_⟩
  rcases h.2 with h0 | ⟨g, cap, cur, rfl, hb, hg, rest⟩
  · exact .inl h0
  · exact .inr ⟨g, cap, cur, rfl, hb, (hk.block g (Array.getElem?_eq_some_iff.1 hg).1 (hd g rfl)).trans hg, rest⟩
theorem ownsRow_type {w : World} {B : Nat} {e : TypeId} {v : Value} {n : Nat} {xs : List Value} (h : w.ownsRow B e 1 v n xs) : ∀ b, v.ownBlock = some b → B ≤ b ∧ ∃ cur, w.heap[b]? = some (.cells cur e (0, 0)) := by
  intro b hb
  rcases h.2 with ⟨rfl, _⟩ | ⟨g, cap, cur, rfl, hB, hg, _⟩
  · simp [Value.ownBlock] at hb
  · simp [Value.ownBlock] at hb; subst hb; exact ⟨hB, cur, hg⟩
theorem ne_of_type {w : World} {a b : Nat} {x y : Array Value} {t u : TypeId} {f g : Nat × Nat} (h : w.heap[a]? = some (.cells x t f)) (k : w.heap[b]? = some (.cells y u g)) (hn : t ≠ u) : a ≠ b := by
  rintro rfl; rw [h] at k; simp at k; exact hn k.2.1

abbrev nmB (name : Bs) (own : Nat) : Obj := .cells #[.string ⟨name.toArray⟩, .pointer (some ⟨own, 0, none⟩), .pointer none] 103 (0, 0)
abbrev clB (kv cv ofv : Value) : Obj := .cells #[.bool false, .bool false, .string ⟨#[]⟩, kv, cv, nilS, ofv, .bool false, .int .i64 0] 99 (0, 0)
abbrev pN (t : Bs × Nat × Nat) : Value := .pointer (some ⟨t.2.1, 0, none⟩)

/-- The names of the scope. -/
structure Ns (B : Nat) (w : World) (y row sc : Nat) (nv : Value) (L : List (Bs × Nat × Nat)) : Prop where
  spc : Sc w y row sc nv
  lo : B ≤ y ∧ B ≤ row ∧ B ≤ sc
  own : w.ownsRow B 104 1 nv L.length (L.map pN)
  nm : ∀ t ∈ L, w.heap[t.2.1]? = some (nmB t.1 t.2.2)

theorem Ns.keep {B : Nat} {w w' : World} {y row sc : Nat} {nv : Value} {L : List (Bs × Nat × Nat)} (h : Ns B w y row sc nv L) (hk : Kp [] w w') : Ns B w' y row sc nv L :=
  ⟨h.spc.keep hk (by simp) (by simp) (by simp), h.lo, ownsRow_kp h.own hk (by simp), fun t ht => (hk.block _ (Array.getElem?_eq_some_iff.1 (h.nm t ht)).1 (by simp)).trans (h.nm t ht)⟩

/-- What 'entry' gives. -/
def EntRes (B : Nat) (w : World) (y row sc : Nat) (nv : Value) (L : List (Bs × Nat × Nat)) (name : Bs) (e : Ending) (w' : World) : Prop :=
  ∃ nm own nv' L', e = .returned (.pointer (some ⟨nm, 0, none⟩)) ∧ Ns B w' y row sc nv' L' ∧ Kp (sc :: nv.ownBlock.toList) w w' ∧
    (((name, nm, own) ∈ L ∧ L' = L ∧ w' = w) ∨ ((∀ t ∈ L, t.1 ≠ name) ∧ L' = L ++ [(name, nm, own)] ∧ w'.heap[own]? = some (clB nilS nilS (.pointer none)) ∧ w.heap.size ≤ nm ∧ w.heap.size ≤ own ∧ ∀ b, nv'.ownBlock = some b → nv.ownBlock = some b ∨ w.heap.size ≤ b))

theorem entry_end {B : Nat} {w w1 : World} {y row sc : Nat} {nv : Value} {L : List (Bs × Nat × Nat)} (hB : B ≤ w.heap.size) (h : Ns B w y row sc nv L) {name : Bs} (hno : ∀ t ∈ L, t.1 ≠ name) {g cap : Nat}
    (hown : w1.ownsRow B 104 1 (.slice (some ⟨g, 0, none⟩) (L.length + 1) cap) (L.length + 1) (L.map pN ++ [.pointer (some ⟨w.heap.size + 1, 0, none⟩)]))
    (hk : Kp nv.ownBlock.toList ((w.alloc (clB nilS nilS (.pointer none))).alloc (nmB name w.heap.size)) w1) (hlc : nv.ownBlock = some g ∨ w.heap.size ≤ g) :
    EntRes B w y row sc nv L name (.returned (.pointer (some ⟨w.heap.size + 1, 0, none⟩))) (w1.setCell ⟨sc, 0, none⟩ (.slice (some ⟨g, 0, none⟩) (L.length + 1) cap)) := by
  have hty : ∀ b, nv.ownBlock = some b → b < w.heap.size ∧ ∃ cur, w.heap[b]? = some (.cells cur 104 (0, 0)) := fun b hb => by
    obtain ⟨_, cur, hc⟩ := ownsRow_type h.own b hb; exact ⟨(Array.getElem?_eq_some_iff.1 hc).1, cur, hc⟩
  have hk0 : Kp nv.ownBlock.toList w w1 := (((Kp.refl [] w).alloc _).alloc _).mono (D' := nv.ownBlock.toList) (by simp) |>.trans hk (fun d hd => .inl hd)
  have old : ∀ (b : Nat) (x : Array Value) (t : TypeId), w.heap[b]? = some (Obj.cells x t (0, 0)) → t ≠ 104 → w1.heap[b]? = some (Obj.cells x t (0, 0)) := fun b x t hb ht => by
    refine (hk0.block b (Array.getElem?_eq_some_iff.1 hb).1 (fun hm => ?_)).trans hb
    rw [Option.mem_toList] at hm
    obtain ⟨_, cur, hc⟩ := hty b hm
    exact ne_of_type hb hc ht rfl
  have hsc := old sc _ _ h.spc.sc (by decide)
  have new : ∀ b x, w.heap.size ≤ b → ((w.alloc (clB nilS nilS (.pointer none))).alloc (nmB name w.heap.size)).heap[b]? = some x → w1.heap[b]? = some x := fun b x hb hx => by
    refine (hk.block b (Array.getElem?_eq_some_iff.1 hx).1 (fun hm => ?_)).trans hx
    rw [Option.mem_toList] at hm
    have := (hty b hm).1; omega
  have n1 : w1.heap[w.heap.size]? = some (clB nilS nilS (.pointer none)) := new _ _ (Nat.le_refl _) (by rw [Below.heap_alloc _ _ _ (by simp)]; exact heap_alloc_new w _)
  have n2 : w1.heap[w.heap.size + 1]? = some (nmB name w.heap.size) := new _ _ (by omega) (new1 w _ _)
  have hlt := h.spc.lt
  have oth : ∀ b, b ≠ sc → (w1.setCell ⟨sc, 0, none⟩ (.slice (some ⟨g, 0, none⟩) (L.length + 1) cap)).heap[b]? = w1.heap[b]? := fun b hb => Below.heap_setCell w1 ⟨sc, 0, none⟩ _ b hb
  have hgs : g ≠ sc := by
    obtain ⟨_, cur, hc⟩ := ownsRow_type hown g rfl
    exact ne_of_type hc hsc (by decide)
  refine ⟨w.heap.size + 1, w.heap.size, .slice (some ⟨g, 0, none⟩) (L.length + 1) cap, L ++ [(name, w.heap.size + 1, w.heap.size)], rfl, ⟨⟨?_, ?_, ?_⟩, h.lo, ?_, ?_⟩, ?_, .inr ⟨hno, rfl, ?_, by omega, Nat.le_refl _, fun b hb => by simp [Value.ownBlock] at hb; subst hb; exact hlc⟩⟩
  · rw [oth y h.spc.ne.2.1]; exact old y _ _ h.spc.sp (by decide)
  · rw [oth row h.spc.ne.2.2]; exact old row _ _ h.spc.ro (by decide)
  · exact heap_setCell_same _ _ _ _ _ _ hsc
  · have hkk : Kp [sc] w1 (w1.setCell ⟨sc, 0, none⟩ (.slice (some ⟨g, 0, none⟩) (L.length + 1) cap)) := (Kp.refl _ w1).setCell _ _ _ (by simp)
    have := ownsRow_kp hown hkk (fun b hb => by simp [Value.ownBlock] at hb; subst hb; simpa using hgs)
    simpa [pN] using this
  · intro t ht
    rw [List.mem_append, List.mem_singleton] at ht
    rcases ht with ht | rfl
    · have hn := h.nm t ht
      rw [oth _ (ne_of_type hn h.spc.sc (by decide))]
      exact old _ _ _ hn (by decide)
    · rw [oth _ (by simp only; omega)]; exact n2
  · exact (hk0.mono (D' := sc :: nv.ownBlock.toList) (by simp; intro d hd; exact .inr hd)).setCell _ _ _ (by simp)
  · rw [oth _ (by omega)]; exact n1

theorem names_cell {B : Nat} {w : World} {y row sc : Nat} {nv : Value} {L : List (Bs × Nat × Nat)} (h : Ns B w y row sc nv L) : ∃ (ao : Option Addr) (cap : Nat), nv = .slice ao L.length cap ∧ ∀ (i : Nat) (hi : i < L.length), ∃ b, ao = some ⟨b, 0, none⟩ ∧ w.cell? ⟨b, i, none⟩ = some (pN L[i]) ∧ w.cell? ⟨L[i].2.1, 0, none⟩ = some (.string ⟨L[i].1.toArray⟩) := by
  rcases h.own.2 with ⟨rfl, h0⟩ | ⟨g, cap, cur, rfl, hb, hg, h1, h2, h3, h4⟩
  · exact ⟨none, 0, by rw [h0], fun i hi => by omega⟩
  · refine ⟨some ⟨g, 0, none⟩, cap, rfl, fun i hi => ⟨g, rfl, ?_, ?_⟩⟩
    · have := h.own.cells (g := g) rfl i (pN L[i]) (by simp [hi])
      rwa [show ((⟨g, 0, none⟩ : Addr).add i) = ⟨g, i, none⟩ from by cases i <;> simp [Addr.add]] at this
    · have := h.nm L[i] (List.getElem_mem _)
      simp only [World.cell?, this]; rfl

theorem infoPN : (Tryz.prog.info? 104).map (fun i => (i.zero, i.size, i.bytes)) = some (some (.pointer none), 1, 8) := by kernel_rfl

set_option maxRecDepth 100000 in
set_option maxHeartbeats 1600000 in
theorem entry_any {B : Nat} {w : World} {y row sc : Nat} {nv : Value} {L : List (Bs × Nat × Nat)} (hB : B ≤ w.heap.size) (h : Ns B w y row sc nv L) (hL : L.length ≤ 100) {name : Bs} :
    Calls Tryz.prog 59 #[.pointer (some ⟨sc, 0, none⟩), .string ⟨name.toArray⟩] w fun e w' => EntRes B w y row sc nv L name e w' := by
  obtain ⟨ao, cap, rfl, hcell⟩ := names_cell h
  have hown := h.own
  obtain ⟨_, _, _, s0, _, _, _, _, sf⟩ := h.spc.cells
  have sf0 := sf 0
  have hscl := h.spc.lt.2.2
  have HE := Lib.hid (fun hno g cap w1 => entry_end (name := name) (w1 := w1) (g := g) (cap := cap) hB h hno)
  have HN := Lib.hid h
  have hscb := Lib.hid h.spc.sc
  have hnvb : Hid (∀ b, (Value.slice ao L.length cap).ownBlock = some b → b ≠ sc) := fun b hb => by
    obtain ⟨_, cur, hc⟩ := ownsRow_type h.own b hb
    exact ne_of_type hc h.spc.sc (by decide)
  have HO := Lib.hid hown
  have HSC : Hid (∀ (g c : Nat) w1, Kp (Value.slice ao L.length cap).ownBlock.toList ((w.alloc (clB nilS nilS (.pointer none))).alloc (nmB name w.heap.size)) w1 → w1.cell? ⟨sc, 0, none⟩ = some (.slice ao L.length cap) ∧ w1.frozen? ⟨sc, 0, none⟩ = false) := by
    intro g c w1 hk
    have hb := hk.block sc (by simp; omega) (fun hm => by rw [Option.mem_toList] at hm; exact hnvb.out sc hm rfl)
    rw [Below.heap_alloc _ _ _ (by simp; omega), Below.heap_alloc _ _ _ hscl, hscb.out] at hb
    exact ⟨by simp only [World.cell?, hb]; rfl, by simp [World.frozen?, hb]⟩
  have HC := Lib.hid hcell
  clear h hown hcell sf
  go_enter Tryz.func59, Tryz.ntmps59
  go_wp2_with fail
  go_loop [13] (fun i => ∃ k : Nat, k ≤ L.length ∧ i = .int .i64 k ∧ Hid (∀ t ∈ L.take k, t.1 ≠ name)) (fun i => L.length - (intOf i).toNat)
  case atStart => exact ⟨0, Nat.zero_le _, rfl, by show ∀ t ∈ _, _; simp⟩
  case round =>
    obtain ⟨k, hk, rfl, hno⟩ := hrel
    by_cases hlt : k < L.length
    · obtain ⟨b, rfl, c1, c2⟩ := HC.out k hlt
      by_cases hn : L[k].1 = name
      · have HR : Hid (L[k] ∈ L ∧ L[k].1 = name) := ⟨List.getElem_mem _, hn⟩
        generalize L[k] = t at *
        obtain ⟨tn, t1, t2⟩ := t
        simp only at c2 hn HR
        subst hn
        go_wp2_with fail
        go_ret
        exact ⟨t1, t2, _, L, rfl, HN.out, Kp.refl _ _, .inl ⟨HR.out.1, rfl, rfl⟩⟩
      · have HR : Hid (∀ t ∈ L.take (k + 1), t.1 ≠ name) := by
          show ∀ t ∈ _, _
          rw [List.take_succ_eq_append_getElem hlt]
          intro t ht
          rw [List.mem_append, List.mem_singleton] at ht
          rcases ht with ht | rfl
          · exact hno.out t ht
          · exact hn
        generalize L[k] = t at *
        obtain ⟨tn, t1, t2⟩ := t
        simp only at c2 hn
        have hn2 : (tn == name) = false := by simpa using hn
        go_wp2_with fail
        exact ⟨⟨k + 1, by omega, by go_num, HR⟩, by simp [intOf]; omega⟩
    · have HR : Hid (∀ t ∈ L, t.1 ≠ name) := by
        show ∀ t ∈ _, _
        have := hno.out
        rwa [List.take_of_length_le (by omega)] at this
      go_wp2_with (at_builtin; go_loud (refine wpList_push1 rfl _ _ 58 rfl B 104 (.pointer none) 8 Tryz.underlying58 infoPN rfl (.slice ao L.length cap) L.length (L.map pN) rfl ((HO.out.alloc _).alloc _) (.pointer (some ⟨w.heap.size + 1, 0, none⟩)) (w.heap.size + 2) (by simp) rfl rfl (by unfold maxLen; omega) (by omega) (by simp; omega) ?_; intro g c1 w1 hg hown1 hk1 hlc; have HLC : Hid ((Value.slice ao L.length cap).ownBlock = some g ∨ w.heap.size ≤ g) := (by rcases hlc with e | e; exact .inl e; exact .inr (by simp at e; omega)); clear hlc; have HK := Lib.hid hk1; have HOW := Lib.hid hown1; have hc1 : w1.cell? ⟨sc, 0, none⟩ = some (.slice ao L.length cap) ∧ w1.frozen? ⟨sc, 0, none⟩ = false := HSC.out g c1 w1 hk1; obtain ⟨hc1, hf1⟩ := hc1; clear hk1 hown1))
      go_ret
      exact HE.out HR.out g c1 w1 HOW.out HK.out HLC.out
end Go.Proofs.YtcaifihdbcjakaaGreat

/- 'Make' of the reference's tree. The walk of the reference's 'Make'. 'SetSearch' of the reference's tree (printed by mkNR.py). 'SetUnknown', 'has', 'Export' of the reference's tree (printed by mkNR.py). -/
import Derived.Test.YtjgdfgpnmmkjfaaGreatDoorNRT
import Derived.Deep.RegionLaw
namespace Go.Proofs.YtjgdfgpnmmkjfaaGreatDoor
set_option linter.unusedVariables false
set_option linter.unusedSimpArgs false
open Go.RowKit Go.MapKept

theorem step_append_one {P : Program} {ops : Array Oper} {o : Oper} {a : Act} {w : World} {K : Act → World → Prop} {Q : Exit → Act → World → Prop} {E : Prop}
    (hg : o.guard = none) (s xo : Operand) (t : TypeId) (hop : o.op = Op.call { callee := Callee.builtin Builtin.append, args := #[s, xo], argTypes := #[t, t] })
    (base : Nat) (e : TypeId) (z : Value) (bytes : Nat) (ht : P.underlying t = some (.slice e)) (hi : (P.info? e).map (fun i => (i.zero, i.size, i.bytes)) = some (some z, 1, bytes)) (hz : z.cells.size = 1)
    (v : Value) (n : Nat) (xs : List Value) (hs : a.eval s = v) (w0 : World) (hown : w0.ownsRow base e 1 v n xs)
    (x : Value) (hw : w = w0.alloc (.cells #[x] e)) (hx : a.eval xo = .slice (some ⟨w0.heap.size, 0, none⟩) 1 1) (hx1 : x.oneCell' = true)
    (hn : n + 1 ≤ maxLen) (hbytes : (n + 1) * bytes ≤ 140737488355328) (hbase : base ≤ w0.heap.size)
    (hK : ∀ g cap w', base ≤ g → w'.ownsRow base e 1 (.slice (some ⟨g, 0, none⟩) (n + 1) cap) (n + 1) (xs ++ [x]) → Kp v.ownBlock.toList w0 w' → (v.ownBlock = some g ∨ w0.heap.size ≤ g) → K (a.put o.dst (.slice (some ⟨g, 0, none⟩) (n + 1) cap)) w') :
    if Region.wanted o (yielded ops a.tmps) = true then Oper.wp P o a w K Q else E := by
  subst hw
  have hwn : Region.wanted o (yielded ops a.tmps) = true := by simp [Region.wanted, hg]
  rw [if_pos hwn]
  obtain ⟨i0, hi0, hz0, hz1, hz2⟩ := info_parts hi
  obtain ⟨v', w', hrun, r1, r2, _, hloc⟩ := run_append_own_at (P := P) (w := w0.alloc (.cells #[x] e)) base t o.type e i0 z 1 bytes ht hi0 hz0 hz1 hz2 hz (by decide) v n xs (hown.alloc (.cells #[x] e)) ⟨w0.heap.size, 0, none⟩ 1 1 [x] rfl (fun j u hj => row_new w0 [x] e j u hj) (fun u hu => by rw [List.mem_singleton.1 hu]; exact hx1) hn hbytes (by simp; omega)
  unfold Oper.wp
  simp [execOp, hop, resolve, invoke, builtin, hs, hx, hrun, Result.andThen]
  have hk : Kp v.ownBlock.toList w0 w' := ((Kp.refl _ w0).alloc _).grown r2 (fun b hb => by rw [hb]; simp)
  rcases r1.2 with ⟨_, h0⟩ | ⟨g, cap, cur, rfl, hg', _⟩
  · omega
  · exact hK g cap w' hg' r1 hk (by rcases hloc with e | e; exact .inl e.symm; exact .inr (by simp [Value.ownBlock] at e; omega))
theorem infoSp : (Tryz.prog.info? 55).map (fun i => (i.zero, i.size, i.bytes)) = some (some (.pointer none), 1, 8) := by kernel_rfl
def rnode (k : Bs) : Obj := .cells #[.string ⟨k.toArray⟩, .slice none 0 0, .slice none 0 0, .string ⟨#[]⟩] 57
/-- A node put behind the others. -/
theorem RTr.push {w w4 : World} {B yb : Nat} {who : Own} {nd : Bs → Option Nat} {S : Bs → Option ND} {l : List Bs} (h : RTr w B yb who nd S l) {k : Bs} (hk : S k = none) {lv : Value} (hcl : w.heap[yb]? = some (.cells #[lv] 60 (0, 0)))
    {g c : Nat} (hkp : Kp lv.ownBlock.toList (w.alloc (rnode k)) w4) (hrow : w4.ownsRow B 55 1 (.slice (some ⟨g, 0, none⟩) (l.length + 1) c) (l.length + 1) ((l.map fun p => ptrN (nd p)) ++ [.pointer (some ⟨w.heap.size, 0, none⟩)]))
    (hg : lv.ownBlock = some g ∨ (w.alloc (rnode k)).heap.size ≤ g) :
    ∃ who', RTr (w4.setCell ⟨yb, 0, none⟩ (.slice (some ⟨g, 0, none⟩) (l.length + 1) c)) B yb who' (setN nd k w.heap.size) (setS S k .new) (l ++ [k]) ∧ Stp who who' w (w4.setCell ⟨yb, 0, none⟩ (.slice (some ⟨g, 0, none⟩) (l.length + 1) c)) := by
  obtain ⟨lv', hcl', hr0, htag⟩ := h.cel
  have elv : lv = lv' := by
    rw [hcl] at hcl'
    simp only [Option.some.injEq, Obj.cells.injEq, and_true] at hcl'
    have := congrArg (fun a => a[0]?) hcl'
    simpa using this
  subst elv
  have hkl : k ∉ l := fun hm => by have := (h.mem k).1 hm; rw [hk] at this; cases this
  have hnk : nd k = none := by
    have := h.same k
    rw [hk] at this
    cases hx : nd k with
    | none => rfl
    | some x => rw [hx] at this; simp at this
  have hyl := h.lt
  have hgl := (row_ids hrow g rfl).2
  have hsz : (w4.setCell ⟨yb, 0, none⟩ (.slice (some ⟨g, 0, none⟩) (l.length + 1) c)).heap.size = w4.heap.size := by simp [World.setCell]
  have hsa : (w.alloc (rnode k)).heap.size = w.heap.size + 1 := by simp
  have hs4 := hkp.size
  rw [hsa] at hs4 hg
  have hset : ∀ j, j ≠ yb → (w4.setCell ⟨yb, 0, none⟩ (.slice (some ⟨g, 0, none⟩) (l.length + 1) c)).heap[j]? = w4.heap[j]? := fun j hj => Below.heap_setCell w4 ⟨yb, 0, none⟩ _ j hj
  have hkeep : ∀ j, j < w.heap.size → j ≠ yb → who j ≠ some (1, []) → (w4.setCell ⟨yb, 0, none⟩ (.slice (some ⟨g, 0, none⟩) (l.length + 1) c)).heap[j]? = w.heap[j]? := fun j hj hne h4 => by
    rw [hset j hne, hkp.block j (by rw [hsa]; omega) (fun hm => h4 (htag j (by simpa using hm)))]
    exact Below.heap_alloc _ _ _ hj
  have hnew : (w4.setCell ⟨yb, 0, none⟩ (.slice (some ⟨g, 0, none⟩) (l.length + 1) c)).heap[w.heap.size]? = some (rnode k) := by
    rw [hset _ (by omega), hkp.block _ (by rw [hsa]; omega) (fun hm => by have := htag w.heap.size (by simpa using hm); have := (h.lo w.heap.size (by rw [this]; simp)).2; omega)]
    exact heap_alloc_new _ _
  have hgy : g ≠ yb := by
    rcases hg with hg | hg
    · rintro rfl; have := htag _ hg; rw [h.wyb] at this; simp at this
    · omega
  have hgb : g ≠ w.heap.size := by
    rcases hg with hg | hg
    · rintro rfl; have := htag _ hg; have := (h.lo w.heap.size (by rw [this]; simp)).2; omega
    · omega
  have hmono : ∀ j t, who j = some t → ((who.set w.heap.size (2, k)).set g (1, [])) j = some t := fun j t hj => by
    have hjl := (h.lo j (by rw [hj]; simp)).2
    by_cases hjg : j = g
    · subst hjg
      rw [Own.set_same]
      rcases hg with hg | hg
      · rw [htag _ hg] at hj; exact hj
      · omega
    · rw [Own.set_other hjg, Own.set_other (by omega)]; exact hj
  have hy4 : w4.heap[yb]? = some (.cells #[lv] 60 (0, 0)) := by
    rw [hkp.block yb (by rw [hsa]; omega) (fun hm => by have := htag yb (by simpa using hm); rw [h.wyb] at this; simp at this), Below.heap_alloc _ _ _ hyl]; exact hcl
  refine ⟨(who.set w.heap.size (2, k)).set g (1, []), ⟨⟨_, heap_setCell_same w4 yb 0 _ _ _ hy4, ?_, fun j hj => ?_⟩, fun q => ?_, ?_, hmono _ _ h.wyb, fun q => ?_, fun q b n hq hS => ?_, fun j hj => ?_⟩, ⟨⟨hkp.os, hkp.tape, hkp.output, by rw [hsz]; omega, fun j hj hn => hkeep j hj (by rintro rfl; rw [h.wyb] at hn; cases hn) (by rw [hn]; simp)⟩, fun j hj => ?_⟩⟩
  · have e : (l ++ [k]).length = l.length + 1 := by simp
    rw [e, List.map_append]
    have e2 : (l.map fun p => ptrN (setN nd k w.heap.size p)) = l.map fun p => ptrN (nd p) := List.map_congr_left fun p hp => by unfold setN; rw [if_neg (by rintro rfl; exact hkl hp)]
    rw [e2]
    have e3 : [k].map (fun p => ptrN (setN nd k w.heap.size p)) = [.pointer (some ⟨w.heap.size, 0, none⟩)] := by simp [setN, ptrN]
    rw [e3]
    refine row_keep hrow (fun j hj => hset j ?_)
    have : g = j := by simpa [Value.ownBlock] using hj
    subst this; exact hgy
  · have : g = j := by simpa [Value.ownBlock] using hj
    subst this; exact Own.set_same _ _ _
  · unfold setS
    by_cases hqk : q = k
    · simp [hqk]
    · rw [if_neg hqk, ← h.mem q]; simp [hqk]
  · exact List.nodup_append.2 ⟨h.nodup, by simp, fun a ha b hb => by simp at hb; subst hb; rintro rfl; exact hkl ha⟩
  · unfold setS setN
    by_cases hqk : q = k
    · rw [if_pos hqk, if_pos hqk]; rfl
    · rw [if_neg hqk, if_neg hqk]; exact h.same q
  · unfold setS at hS
    unfold setN at hq
    by_cases hqk : q = k
    · subst hqk
      rw [if_pos rfl] at hq hS
      cases hq; cases hS
      refine ⟨by rw [Own.set_other (Ne.symm hgb)]; exact Own.set_same _ _ _, _, _, hnew, ⟨?_, .inl ⟨rfl, rfl⟩⟩, fun g hg => by simp [Value.ownBlock] at hg, ⟨?_, .inl ⟨rfl, rfl⟩⟩, fun g hg => by simp [Value.ownBlock] at hg⟩ <;> rfl
    · rw [if_neg hqk] at hq hS
      have hN := h.node q b n hq hS
      have hne : ∀ j t, who j = some t → 2 ≤ t.1 → (w4.setCell ⟨yb, 0, none⟩ (.slice (some ⟨g, 0, none⟩) (l.length + 1) c)).heap[j]? = w.heap[j]? := fun j t hj h2 => hkeep j (h.lo j (by rw [hj]; simp)).2 (by rintro rfl; rw [h.wyb] at hj; cases hj; simp at h2) (fun e => by rw [e] at hj; cases hj; simp at h2)
      exact hN.keep (hne b _ hN.1 (by simp)) (fun j hj => hne j _ hj (by simp)) (fun j hj => hne j _ hj (by simp)) hmono
  · rw [hsz]
    by_cases hjg : j = g
    · subst hjg
      exact ⟨(row_ids hrow j rfl).1, hgl⟩
    · rw [Own.set_other hjg] at hj
      by_cases hjb : j = w.heap.size
      · subst hjb; exact ⟨h.base, by omega⟩
      · rw [Own.set_other hjb] at hj
        have := h.lo j hj
        omega
  · by_cases hjg : j = g
    · subst hjg
      rcases hg with hg | hg
      · rw [Own.set_same, htag _ hg]
      · omega
    · rw [Own.set_other hjg, Own.set_other (by omega)]
end Go.Proofs.YtjgdfgpnmmkjfaaGreatDoor
namespace Go.Proofs.YtjgdfgpnmmkjfaaGreatDoor
set_option linter.unusedVariables false
set_option linter.unusedSimpArgs false
open Go.RowKit Go.MapKept

/-- A call of a Go function as one step of a region that draws. -/
theorem step_callF {P : Program} {ops : Array Oper} {o : Oper} {a : Act} {w : World} {K : Act → World → Prop} {Q : Exit → Act → World → Prop} {E : Prop}
    (hg : o.guard = none) (f : FuncId) (xs : Array Operand) (ts : Array TypeId) (hop : o.op = Op.call { callee := Callee.value (.func f), args := xs, argTypes := ts }) (vs : Array Value) (hx : xs.map a.eval = vs) (hf : ∀ w, (callFunc f vs).run P w = .ok (.enter f vs) w)
    (hc : Calls P f vs w fun e w' => ∃ v, e = .returned v ∧ K (a.put o.dst v) w') :
    if Region.wanted o (yielded ops a.tmps) = true then Oper.wp P o a w K Q else E := by
  have hwn : Region.wanted o (yielded ops a.tmps) = true := by simp [Region.wanted, hg]
  rw [if_pos hwn]
  unfold Oper.wp
  simp [execOp, hop, resolve, invoke, hx, Result.andThen, go_sem, hf]
  refine hc.mono ?_
  rintro _ w' ⟨v, rfl, hk⟩
  exact hk
theorem can_id (l : List Bs) (h : ∀ q ∈ l, Gp q) : canonN rootN (canN l) = canN l := by rw [canon_root, parts_can l h]
theorem RTr.lvOf {w : World} {B yb : Nat} {who : Own} {nd : Bs → Option Nat} {S : Bs → Option ND} {l : List Bs} (h : RTr w B yb who nd S l) : ∃ lo lc, w.heap[yb]? = some (.cells #[.slice lo l.length lc] 60 (0, 0)) ∧ w.ownsRow B 55 1 (.slice lo l.length lc) l.length (l.map fun p => ptrN (nd p)) ∧ ∀ g, (Value.slice lo l.length lc).ownBlock = some g → who g = some (1, []) := by
  obtain ⟨lv, h1, h2, h3⟩ := h.cel
  obtain ⟨lo, lc, rfl⟩ := owns_slice h2
  exact ⟨lo, lc, h1, h2, h3⟩
set_option maxRecDepth 100000 in
set_option maxHeartbeats 3200000 in
theorem rMake_any {w : World} {B yb : Nat} {who : Own} {nd : Bs → Option Nat} {S : Bs → Option ND} {l : List Bs} (h : RTr w B yb who nd S l) (hl : l.length ≤ 100000) (path : Bs) (hp : path.length ≤ 20000) :
    Calls Tryz.prog 24 #[.pointer (some ⟨yb, 0, none⟩), .string ⟨path.toArray⟩] w fun e w' => e = .returned (.int .i64 0) ∧ ∃ who' nd' l', RTr w' B yb who' nd' (makeS S path) l' ∧ Stp who who' w w' := by
  have hw := parts_w path
  have hl0 := len_w (partsN path)
  have PA : Hid (Calls Tryz.prog 55 #[.string ⟨path.toArray⟩] w fun e w' => ∃ o c, e = .returned (.slice o (partsN path).length c) ∧ w'.ownsRow w.heap.size 9 1 (.slice o (partsN path).length c) (partsN path).length ((partsN path).map sv) ∧ Below w.heap.size w w') := (rParts_any path (by omega) w).mono fun e w' ⟨r, he, ho, hB⟩ => by
    obtain ⟨o, c, rfl⟩ := owns_slice ho
    exact ⟨o, c, he, ho, hB⟩
  have JO : Hid (∀ W v l, wN l ≤ 1000000000 → TxtRow W v l → Calls Tryz.prog 57 #[v] W fun e w' => e = .returned (.string ⟨(canN l).toArray⟩) ∧ Below W.heap.size W w') := fun W v l q ht => of_any l v W ht q
  have hgood := parts_good path
  unfold makeS
  generalize partsN path = ps at *
  obtain ⟨n, hn⟩ : ∃ n, ps.length = n := ⟨_, rfl⟩
  have HN := Lib.hid (And.intro hn (And.intro (show wN ps ≤ 70000 by omega) (And.intro hl0 (And.intro hgood hl))))
  rw [hn] at hl0 PA ⊢
  have hnb : n ≤ 100000 := by omega
  have H := Lib.hid h
  have hp1 : IntKind.i64.wrap ((n : Int) + 1) = (n : Int) + 1 := IntWalk.i64_in _ (by omega)
  clear h hw hl0 hn hp hgood hl
  go_enter Tryz.func24, Tryz.ntmps24
  go_wp2_with (go_at_call 55; refine PA.out.mono ?_; rintro e w1 ⟨ao, ac, rfl, ho, hB⟩; have HP := Lib.hid (And.intro ho hB); clear ho hB)
  go_loopw [14] (fun q wr => ∃ k : Nat, k ≤ n + 1 ∧ q = .int .i64 (k : Int) ∧ ∃ who' nd' l', RTr wr B yb who' nd' (mkS S ps k) l' ∧ Stp who who' w1 wr ∧ l'.length ≤ 100000 + k) (fun q _ => n + 1 - (intOf q).toNat)
  case atStart => exact ⟨0, Nat.zero_le _, rfl, who, nd, l, H.out.low HP.out.2, Stp.refl _ _, HN.out.2.2.2.2⟩
  case round =>
    obtain ⟨k, hk, rfl, who1, nd1, l1, hT, hS, hl1⟩ := hrel
    have HR := Lib.hid (And.intro hT (And.intro hS hl1))
    by_cases hlt : k < n + 1
    · have htx : TxtRow w1 (.slice ao n ac) ps := by
        have := HP.out.1
        have e := HN.out.1
        rw [← e] at this ⊢
        exact TxtRow.of_owns this
      have hun : ∀ a, ao = some a → who a.block = none := fun a ha => H.out.none_at (TxtRow.nilOr HP.out.1 a ha)
      have hrow : TxtRow wr (.slice ao k ac) (ps.take k) := (htx.fr hun hS.fr).take (by omega)
      have hcap : n ≤ ac := by obtain ⟨_, h2, _⟩ := htx.at_; rw [HN.out.1] at h2; exact h2
      have hcm : ac ≤ maxLen := by obtain ⟨_, _, h2, _⟩ := htx.at_; exact h2
      have hwt := wN_take_le ps k
      have hw3 := HN.out.2.1
      have hql : (canN (ps.take k)).length ≤ 80000 := by
        have h1 := can_len (ps.take k)
        omega
      have hcid := can_id (ps.take k) (fun q hq => HN.out.2.2.2.1 q (List.mem_of_mem_take hq))
      have hJ := fun W hb => JO.out W _ _ (by omega) (hrow.below (w' := W) hb)
      have hs := mkS_succ S ps k
      have hAT := fun W (hb : Below wr.heap.size wr W) => rat_any (hT.low hb) (by omega) (canN (ps.take k)) (by omega)
      rw [hcid] at hAT
      obtain ⟨q, hq⟩ : ∃ q, canN (ps.take k) = q := ⟨_, rfl⟩
      rw [hq] at hJ hql hs
      simp only [hq] at hAT
      have HJ := Lib.hid hJ
      have HS := Lib.hid hs
      have t0 : decide ((k : Int) < (n : Int) + 1) = true := by rw [decide_eq_true_eq]; omega
      have t1 : ¬ ((k : Int) < 0) := by omega
      have hka : k ≤ ac := by omega
      have hw2 : IntKind.i64.wrap ((k : Int) + 1) = (k : Int) + 1 := IntWalk.i64_in _ (by omega)
      have HK := Lib.hid (And.intro hk hlt)
      cases hnd : nd1 q with
      | some b =>
        have HA : Hid (∀ W, Below wr.heap.size wr W → Calls Tryz.prog 56 #[.pointer (some ⟨yb, 0, none⟩), .string ⟨q.toArray⟩] W fun e w' => e = .returned (.pointer (some ⟨b, 0, none⟩)) ∧ Below W.heap.size W w') := fun W hb => by have := hAT W hb; rw [hnd] at this; exact this
        have HSame : Hid (mkS S ps (k + 1) = mkS S ps k) := by
          show _ = _
          rw [hs]
          unfold put1
          obtain ⟨nn, hn1, _⟩ := hT.has hnd
          rw [hn1]; rfl
        clear hT hS htx hun hrow hJ hs hnd hk hlt hq hAT hwt hw3 hcid hl1
        go_wp2_with (first | (go_at_call 57; refine (HJ.out _ (by exact Below.refl _ _)).mono ?_; rintro e w2 ⟨rfl, hB⟩; have HB := Lib.hid hB; clear hB) | (go_at_call 56; refine (HA.out _ HB.out).mono ?_; rintro e w3 ⟨rfl, hB⟩; have HB3 : Hid (Below wr.heap.size wr w3) := HB.out.trans (hB.mono HB.out.size); clear hB))
        exact ⟨⟨k + 1, by have := HK.out; omega, by go_num, who1, nd1, l1, by rw [HSame.out]; exact HR.out.1.low HB3.out, HR.out.2.1.low HB3.out, by have := HR.out.2.2; omega⟩, by have := HK.out; simp [intOf]; omega⟩
      | none =>
        have HA : Hid (∀ W, Below wr.heap.size wr W → Calls Tryz.prog 56 #[.pointer (some ⟨yb, 0, none⟩), .string ⟨q.toArray⟩] W fun e w' => e = .returned (.pointer none) ∧ Below W.heap.size W w') := fun W hb => by have := hAT W hb; rw [hnd] at this; exact this
        have hSn := hT.none_of hnd
        have HSame : Hid (mkS S ps (k + 1) = setS (mkS S ps k) q .new) := by
          show _ = _
          rw [hs]
          unfold put1
          rw [hSn]; rfl
        obtain ⟨lo, lc, hcl, hown, htag⟩ := hT.lvOf
        have hbase := hT.base
        obtain ⟨ln, hln⟩ : ∃ ln, l1.length = ln := ⟨_, rfl⟩
        have HPU : Hid (∀ w5, Below wr.heap.size wr w5 → ∀ w6 g c, Kp (Value.slice lo ln lc).ownBlock.toList (w5.alloc (rnode q)) w6 → w6.ownsRow B 55 1 (.slice (some ⟨g, 0, none⟩) (ln + 1) c) (ln + 1) ((l1.map fun p => ptrN (nd1 p)) ++ [.pointer (some ⟨w5.heap.size, 0, none⟩)]) → ((Value.slice lo ln lc).ownBlock = some g ∨ (w5.alloc (rnode q)).heap.size ≤ g) →
            (∃ who' nd', RTr (w6.setCell ⟨yb, 0, none⟩ (.slice (some ⟨g, 0, none⟩) (ln + 1) c)) B yb who' nd' (setS (mkS S ps k) q .new) (l1 ++ [q]) ∧ Stp who who' w1 (w6.setCell ⟨yb, 0, none⟩ (.slice (some ⟨g, 0, none⟩) (ln + 1) c))) ∧ w6.cell? ⟨yb, 0, none⟩ = some (.slice lo ln lc) ∧ w6.frozen? ⟨yb, 0, none⟩ = false) := fun w5 hb w6 g c hk hr hg => by
          subst hln
          have hT5 := hT.low hb
          have hcl5 := (hb.block yb hT.lt).trans hcl
          obtain ⟨who', hT6, hS6⟩ := hT5.push hSn hcl5 hk hr hg
          refine ⟨⟨who', _, hT6, (hS.low hb).trans hS6⟩, ?_⟩
          have hy6 : w6.heap[yb]? = some (.cells #[.slice lo l1.length lc] 60 (0, 0)) := by
            rw [hk.block yb (by have := hT5.lt; simp; omega) (fun hm => by have := htag yb (by simpa using hm); rw [hT.wyb] at this; simp at this), Below.heap_alloc _ _ _ hT5.lt]; exact hcl5
          exact ⟨(vcells1 hy6).1, (vcells1 hy6).2 0⟩
        have HCE : Hid (∀ W, Below wr.heap.size wr W → W.cell? ⟨yb, 0, none⟩ = some (.slice lo ln lc) ∧ W.ownsRow B 55 1 (.slice lo ln lc) ln (l1.map fun p => ptrN (nd1 p))) := fun W hb => by
          subst hln
          exact ⟨(vcells1 ((hb.block yb hT.lt).trans hcl)).1, row_keep hown (fun g hg => hb.block g (hT.lo g (by rw [htag g hg]; simp)).2)⟩
        have hlb : ln ≤ 300000 := by omega
        have HLN := Lib.hid hln
        have HLL := Lib.hid (show ∃ L, L = l1.map fun p => ptrN (nd1 p) from ⟨_, rfl⟩)
        clear hT hS htx hun hrow hJ hs hnd hk hlt hq hAT hwt hw3 hcid hl1 hSn hcl hown htag hln
        go_wp2_with (first | (go_at_call 57; refine (HJ.out _ (by exact Below.refl _ _)).mono ?_; rintro e w2 ⟨rfl, hB⟩; have HB := Lib.hid hB; clear hB) | (go_at_call 56; refine (HA.out _ HB.out).mono ?_; rintro e w3 ⟨rfl, hB⟩; have HB3 : Hid (Below wr.heap.size wr w3) := HB.out.trans (hB.mono HB.out.size); clear hB))
        have hc3 := (HCE.out w3 HB3.out).1
        go_region_law (first | (refine step_callF rfl 57 _ _ rfl #[.slice ao k ac] (by simp [Act.eval, Act.put]) (fun w => enters_of Tryz.func57 (by kernel_rfl) rfl _ w) ?_; refine (HJ.out _ (by exact HB3.out.drew)).mono ?_; rintro e w5 ⟨rfl, hB⟩; refine ⟨_, rfl, ?_⟩; have hb5 : Below wr.heap.size wr w5 := (HB3.out.drew).trans (hB.mono HB3.out.size); have HB5 := Lib.hid hb5; have hc5 := (HCE.out w5 hb5).1; have hc5a := fun o => (HCE.out (w5.alloc o) (hb5.alloc hb5.size o)).1; have hc5b := fun o o' => (HCE.out ((w5.alloc o).alloc o') ((hb5.alloc hb5.size o).alloc (hb5.alloc hb5.size o).size o')).1; clear hB hb5) | (refine step_append_one rfl (.tmp 28) (.tmp 35) 58 rfl B 55 (.pointer none) 8 Tryz.underlying58 infoSp rfl (.slice lo ln lc) ln _ (by simp [Act.eval, Act.put]) (w5.alloc (rnode q)) (HCE.out _ (HB5.out.alloc HB5.out.size _)).2 (.pointer (some ⟨w5.heap.size, 0, none⟩)) rfl (by simp [Act.eval, Act.put]) rfl (by unfold maxLen; omega) (by omega) (by have := HB5.out.size; simp; omega) ?_; intro g c6 w6 hg6 hr6 hk6 hl6; obtain ⟨hpu, hx6, hf6⟩ := HPU.out w5 HB5.out w6 g c6 hk6 hr6 hl6; have HP6 := Lib.hid hpu; clear hpu hg6 hr6 hk6 hl6))
        all_goals
          go_wp2_with fail
          obtain ⟨who6, nd6, hT6, hS6⟩ := HP6.out
          exact ⟨⟨k + 1, by have := HK.out; omega, by go_num, who6, nd6, _, by rw [HSame.out]; exact hT6, hS6, by have := HR.out.2.2; simp; omega⟩, by have := HK.out; simp [intOf]; omega⟩
    · have hke : k = n + 1 := by omega
      subst hke
      have t0 : decide (((n + 1 : Nat) : Int) < (n : Int) + 1) = false := by rw [decide_eq_false_iff_not]; omega
      clear hT hS hk hlt hl1
      go_wp2_with fail
      go_ret
      exact ⟨rfl, who1, nd1, l1, HR.out.1, (Stp.of_below HP.out.2).trans HR.out.2.1⟩
end Go.Proofs.YtjgdfgpnmmkjfaaGreatDoor
namespace Go.Proofs.YtjgdfgpnmmkjfaaGreatDoor
set_option linter.unusedVariables false
set_option linter.unusedSimpArgs false
open Go.RowKit Go.MapKept

/-- A node told anew. -/
theorem RTr.setNode {w w' : World} {B yb : Nat} {who who' : Own} {nd : Bs → Option Nat} {S : Bs → Option ND} {l : List Bs} (h : RTr w B yb who nd S l) {k : Bs} {b : Nat} {n' : ND} (hb : nd k = some b) (hs : w.heap.size ≤ w'.heap.size)
    (hk : ∀ j t, who j = some t → (t.1 < 2 ∨ t.2 ≠ k) → w'.heap[j]? = w.heap[j]?) (hw : ∀ j t, who j = some t → who' j = some t) (hN : RNodeAt w' B who' k b n') (hlo : ∀ j, who' j ≠ none → B ≤ j ∧ j < w'.heap.size) : RTr w' B yb who' nd (setS S k n') l := by
  obtain ⟨lv, h1, h2, h3⟩ := h.cel
  refine ⟨⟨lv, (hk yb _ h.wyb (.inl (by decide))).trans h1, row_keep h2 (fun g hg => hk g _ (h3 g hg) (.inl (by decide))), fun g hg => hw _ _ (h3 g hg)⟩, fun q => ?_, h.nodup, hw _ _ h.wyb, fun q => ?_, fun q b' n hq hS => ?_, hlo⟩
  · unfold setS
    by_cases hqk : q = k
    · obtain ⟨n, hn, _⟩ := h.has hb
      rw [if_pos hqk, hqk, h.mem k, hn]; simp
    · rw [if_neg hqk]; exact h.mem q
  · unfold setS
    by_cases hqk : q = k
    · rw [if_pos hqk, hqk, hb]; rfl
    · rw [if_neg hqk]; exact h.same q
  · unfold setS at hS
    by_cases hqk : q = k
    · subst hqk
      rw [if_pos rfl] at hS; cases hS
      rw [hb] at hq; cases hq
      exact hN
    · rw [if_neg hqk] at hS
      have hN' := h.node q b' n hq hS
      exact hN'.keep (hk b' _ hN'.1 (.inr hqk)) (fun j hj => hk j _ hj (.inr hqk)) (fun j hj => hk j _ hj (.inr hqk)) hw
/-- A node's search set to a new row. -/
theorem RTr.search {w w1 : World} {B yb : Nat} {who : Own} {nd : Bs → Option Nat} {S : Bs → Option ND} {l : List Bs} (h : RTr w B yb who nd S l) {k : Bs} {b : Nat} {n : ND} (hb : nd k = some b) (hS : S k = some n) (hB : Below w.heap.size w w1)
    {v : Value} {L : List Bs} (hv : w1.ownsRow w.heap.size 9 1 v L.length (L.map sv)) :
    RTr (w1.setCell ⟨b, 1, none⟩ v) B yb (ownV who v (3, k)) nd (setS S k { n with search := L }) l ∧ Stp who (ownV who v (3, k)) w (w1.setCell ⟨b, 1, none⟩ v) := by
  have hids := row_ids hv
  have hmono : ∀ j t, who j = some t → ownV who v (3, k) j = some t := fun j t hj => by
    unfold ownV
    rw [if_neg]
    · exact hj
    · intro hg
      have := (hids j hg).1
      have := (h.lo j (by rw [hj]; simp)).2
      omega
  have h1 := h.low hB
  have hN := h1.node k b n hb hS
  obtain ⟨hwb, vs, ve, hc, r1, r2, r3, r4⟩ := hN
  have hbl := (h.lo b (by rw [hwb]; simp)).2
  have hset : ∀ j, j ≠ b → (w1.setCell ⟨b, 1, none⟩ v).heap[j]? = w1.heap[j]? := fun j hj => Below.heap_setCell w1 ⟨b, 1, none⟩ v j hj
  have hsz : (w1.setCell ⟨b, 1, none⟩ v).heap.size = w1.heap.size := by simp [World.setCell]
  refine ⟨h1.setNode hb (Nat.le_of_eq hsz.symm) (fun j t hj ht => hset j ?_) hmono ⟨hmono _ _ hwb, v, ve, heap_setCell_same w1 b 1 _ _ v hc, row_base (row_keep hv (fun g hg => hset g (by have := (hids g hg).1; omega))) h.base, fun g hg => if_pos hg, row_keep r3 (fun g hg => hset g (by rintro rfl; have := r4 _ hg; rw [hwb] at this; cases this)), fun g hg => hmono _ _ (r4 g hg)⟩ (fun j hj => ?_), ⟨⟨hB.os, hB.tape, hB.output, by rw [hsz]; exact hB.size, fun j hj hn => ?_⟩, fun j hj => ?_⟩⟩
  · rintro rfl
    rw [hwb] at hj
    cases hj
    rcases ht with ht | ht
    · omega
    · exact ht rfl
  · unfold ownV at hj
    by_cases hg : v.ownBlock = some j
    · have := hids j hg
      have := h.base
      rw [hsz]; omega
    · rw [if_neg hg] at hj
      have := h1.lo j hj
      rw [hsz]; exact this
  · rw [hset j (by rintro rfl; rw [hwb] at hn; cases hn)]
    exact hB.block j hj
  · unfold ownV
    rw [if_neg (fun hg => by have := (hids j hg).1; omega)]
set_option maxRecDepth 100000 in
set_option maxHeartbeats 1600000 in
theorem rSetSearch_any {w : World} {B yb : Nat} {who : Own} {nd : Bs → Option Nat} {S : Bs → Option ND} {l : List Bs} (h : RTr w B yb who nd S l) (hll : l.length ≤ 1000000) (path : Bs) (hp : path.length ≤ 100000) (L : List Bs) (hL : ∀ p ∈ L, p.length ≤ 100000) (hn : L.length ≤ 100000) {v : Value} (hv : TxtRow w v L) :
    Calls Tryz.prog 26 #[.pointer (some ⟨yb, 0, none⟩), .string ⟨path.toArray⟩, v] w fun e w' => e = .returned (.int .i64 (srchS S path L).1) ∧ ∃ who' nd' l', RTr w' B yb who' nd' (srchS S path L).2 l' ∧ Stp who who' w w' := by
  obtain ⟨ao, ac, rfl⟩ := hv.len
  have AT : Hid (∀ W, Below w.heap.size w W → ∀ p : Bs, p.length ≤ 100000 → Calls Tryz.prog 56 #[.pointer (some ⟨yb, 0, none⟩), .string ⟨p.toArray⟩] W fun e w' => e = .returned (ptrN (nd (canonN rootN p))) ∧ Below W.heap.size W w') := fun W hb p hp => rat_any (h.low hb) hll p hp
  have A0 := AT.out w (Below.refl _ _) path hp
  unfold srchS
  cases hnd : nd (canonN rootN path) with
  | none =>
    rw [h.none_of hnd]
    rw [hnd] at A0
    have A1 : Hid (Calls Tryz.prog 56 #[.pointer (some ⟨yb, 0, none⟩), .string ⟨path.toArray⟩] w fun e w' => e = .returned (.pointer none) ∧ Below w.heap.size w w') := A0
    have H := Lib.hid h
    clear h hv AT A0 hnd hL hp
    go_enter Tryz.func26, Tryz.ntmps26
    go_wp2_with (go_at_call 56; refine A1.out.mono ?_; rintro e w2 ⟨rfl, hB⟩; have HB := Lib.hid hB; clear hB)
    go_ret
    exact ⟨rfl, who, nd, l, H.out.low HB.out, Stp.of_below HB.out⟩
  | some b =>
    obtain ⟨nn, hS, hN⟩ := h.has hnd
    rw [hS, show (some nn : Option ND) = some nn from rfl]
    rw [hnd] at A0
    have A1 : Hid (Calls Tryz.prog 56 #[.pointer (some ⟨yb, 0, none⟩), .string ⟨path.toArray⟩] w fun e w' => e = .returned (.pointer (some ⟨b, 0, none⟩)) ∧ Below w.heap.size w w') := A0
    obtain ⟨key, hkey⟩ : ∃ key, canonN rootN path = key := ⟨_, rfl⟩
    rw [hkey] at hnd hS hN ⊢
    have CA : Hid (∀ W, ∀ p : Bs, p.length ≤ 100000 → Calls Tryz.prog 58 #[.string ⟨#[58, 58]⟩, .string ⟨p.toArray⟩] W fun e w' => e = .returned (.string ⟨(canonN rootN p).toArray⟩) ∧ Below W.heap.size W w') := fun W p hp => rCanonical_any rootN p (by decide) hp W
    have HALL : Hid ((if allIn S L = true then ((0 : Int), setS S key { nn with search := L.map (canonN rootN) }) else (8, S)) = if allIn S L = true then ((0 : Int), setS S key { nn with search := L.map (canonN rootN) }) else (8, S)) := rfl
    obtain ⟨res, hres⟩ : ∃ res, res = (if allIn S L = true then ((0 : Int), setS S key { nn with search := L.map (canonN rootN) }) else (8, S)) := ⟨_, rfl⟩
    have HRES := Lib.hid hres
    show Calls _ _ _ _ fun e w' => e = .returned (.int .i64 (if allIn S L = true then ((0 : Int), setS S key { nn with search := L.map (canonN rootN) }) else (8, S)).1) ∧ ∃ who' nd' l', RTr w' B yb who' nd' (if allIn S L = true then ((0 : Int), setS S key { nn with search := L.map (canonN rootN) }) else (8, S)).2 l' ∧ Stp who who' w w'
    rw [← hres]
    obtain ⟨n, hnl⟩ : ∃ n, L.length = n := ⟨_, rfl⟩
    have HN := Lib.hid (And.intro hnl (And.intro hnd hS))
    obtain ⟨_, hlc, hcm, hcell⟩ := hv.at_
    rw [hnl] at hlc hn ⊢
    unfold maxLen at hcm
    have HC := Lib.hid hcell
    have H := Lib.hid h
    have HL := Lib.hid hL
    clear HALL hres h hv hcell hL hnl hnd hS hN hkey A0 hp
    go_enter Tryz.func26, Tryz.ntmps26
    go_wp2_with (go_at_call 56; refine A1.out.mono ?_; rintro e w1 ⟨rfl, hB⟩; have HB1 := Lib.hid hB; clear hB)
    go_loopw [18, 8] (fun q o wr => ∃ k : Nat, k ≤ n ∧ q = .int .i64 (k : Int) ∧ wr.ownsRow w.heap.size 9 1 o k ((L.take k).map fun p => sv (canonN rootN p)) ∧ Below w.heap.size w wr ∧ allIn S (L.take k) = true) (fun q _ _ => n - (intOf q).toNat)
    case atStart => exact ⟨0, Nat.zero_le _, rfl, ⟨rfl, .inl ⟨rfl, rfl⟩⟩, HB1.out, rfl⟩
    case round =>
      obtain ⟨k, hk, rfl, hown, hB, hall⟩ := hrel
      have HB := Lib.hid hB
      have HALL := Lib.hid hall
      by_cases hlt : k < n
      · have hkl : k < L.length := by have := HN.out.1; omega
        obtain ⟨gb, off, rfl, hgl, hc0⟩ := HC.out k hkl
        have hc1 : wr.cell? ⟨gb, off + k, none⟩ = some (sv L[k]) := (hB.cell (p := ⟨gb, off + k, none⟩) hgl).trans hc0
        have hpl := HL.out L[k] (List.getElem_mem _)
        have hA := AT.out wr hB L[k] hpl
        have hCA := fun W => CA.out W L[k] hpl
        have htk : L.take (k + 1) = L.take k ++ [L[k]] := List.take_succ_eq_append_getElem hkl
        have HTK : Hid ((L.take (k + 1)).map (fun p => sv (canonN rootN p)) = (L.take k).map (fun p => sv (canonN rootN p)) ++ [sv (canonN rootN L[k])] ∧ allIn S (L.take (k + 1)) = (allIn S (L.take k) && (S (canonN rootN L[k])).isSome) ∧ (allIn S L = true → (S (canonN rootN L[k])).isSome = true)) := by
          refine ⟨?_, ?_, ?_⟩
          · rw [htk, List.map_append]; rfl
          · rw [htk]; unfold allIn; rw [List.all_append]; simp
          · intro ha; exact List.all_eq_true.1 ha _ (List.getElem_mem _)
        have HSO := Lib.hid (H.out.same (canonN rootN L[k]))
        generalize L[k] = p at *
        have hcx : wr.cell? ⟨gb, off + k, none⟩ = some (.string ⟨p.toArray⟩) := hc1
        have i1 : k < n := hlt
        have t0 : decide ((k : Int) < (n : Int)) = true := by rw [decide_eq_true_eq]; omega
        obtain ⟨oo, oc, rfl⟩ := owns_slice hown
        have HO := Lib.hid hown
        have HK := Lib.hid hlt
        cases hx : nd (canonN rootN p) with
        | none =>
          rw [hx] at hA
          have HA : Hid (Calls Tryz.prog 56 #[.pointer (some ⟨yb, 0, none⟩), .string ⟨p.toArray⟩] wr fun e w' => e = .returned (.pointer none) ∧ Below wr.heap.size wr w') := hA
          have HX := Lib.hid hx
          clear hA hCA hown hB hall hc0 hc1 htk hx hlt hk hkl
          go_wp2_with (go_at_call 56; refine HA.out.mono ?_; rintro e w2 ⟨rfl, hB2⟩; have HB2 := Lib.hid hB2; clear hB2)
          go_ret
          have hno : allIn S L ≠ true := fun ha => by
            have h1 := HTK.out.2.2 ha
            have h2 := HSO.out
            rw [HX.out, h1] at h2; simp at h2
          rw [HRES.out, if_neg hno]
          have hb := HB.out.trans (HB2.out.mono HB.out.size)
          exact ⟨rfl, who, nd, l, H.out.low hb, Stp.of_below hb⟩
        | some bb =>
          rw [hx] at hA
          have HA : Hid (Calls Tryz.prog 56 #[.pointer (some ⟨yb, 0, none⟩), .string ⟨p.toArray⟩] wr fun e w' => e = .returned (.pointer (some ⟨bb, 0, none⟩)) ∧ Below wr.heap.size wr w') := hA
          have HX := Lib.hid hx
          obtain ⟨q, hq⟩ : ∃ q, canonN rootN p = q := ⟨_, rfl⟩
          rw [hq] at hCA
          have HQ := Lib.hid hq
          have HCA := Lib.hid hCA
          clear hA hCA hown hB hall hc0 hc1 htk hx hlt hk hkl hq
          have tok : True := trivial
          go_wp2_with (first | (go_at_call 56; have _t := tok; refine HA.out.mono ?_; rintro e w2 ⟨rfl, hB2⟩; have HB2 : Hid (w2.ownsRow w.heap.size 9 1 (.slice oo k oc) k ((L.take k).map fun p => sv (canonN rootN p)) ∧ Below w.heap.size w w2) := ⟨ownsRow_kp HO.out (kp_of_below hB2) (by simp), HB.out.trans (hB2.mono HB.out.size)⟩; clear hB2 tok _t) | (go_at_call 58; refine (HCA.out _).mono ?_; rintro e w3 ⟨rfl, hB3⟩; have HB3 : Hid (w3.ownsRow w.heap.size 9 1 (.slice oo k oc) k ((L.take k).map fun p => sv (canonN rootN p)) ∧ Below w.heap.size w w3) := ⟨ownsRow_kp HB2.out.1 (kp_of_below hB3) (by simp), HB2.out.2.trans (hB3.mono HB2.out.2.size)⟩; clear hB3) | (at_builtin; go_loud (refine wpList_push rfl (.tmp 26) (.tmp 29) 27 rfl w.heap.size 9 (.string ⟨#[]⟩) 16 Tryz.underlying27 infoStr rfl (.slice oo k oc) k _ rfl HB3.out.1 (.string ⟨q.toArray⟩) _ rfl rfl (by unfold maxLen; omega) (by omega) HB3.out.2.size ?_); intro g1 c1 w4 hg1 hown4 hb4 _; have H4 := Lib.hid (And.intro hown4 (HB3.out.2.trans hb4)); clear hg1 hown4 hb4))
          exact ⟨⟨k + 1, by have := HK.out; omega, by go_num, by rw [HTK.out.1, HQ.out]; exact H4.out.1, H4.out.2, by rw [HTK.out.2.1, HALL.out]; have h2 := HSO.out; rw [HX.out] at h2; rw [← h2]; rfl⟩, by have := HK.out; simp [intOf]; omega⟩
      · have hkn : k = n := by omega
        subst hkn
        have t0 : decide ((k : Int) < (k : Int)) = false := by rw [decide_eq_false_iff_not]; omega
        have hkl := HN.out.1
        obtain ⟨oo, oc, rfl⟩ := owns_slice hown
        rw [List.take_of_length_le (by omega)] at hown
        have hall2 : allIn S L = true := by
          have := HALL.out
          rw [List.take_of_length_le (by omega)] at this; exact this
        have hrow : wr.ownsRow w.heap.size 9 1 (.slice oo k oc) ((L.map (canonN rootN)).length) ((L.map (canonN rootN)).map sv) := by
          rw [List.length_map, List.map_map, hkl]; exact hown
        obtain ⟨hT, hSt⟩ := H.out.search HN.out.2.1 HN.out.2.2 hB hrow
        obtain ⟨_, vs, ve, hcn, _⟩ := (H.out.low hB).node key b nn HN.out.2.1 HN.out.2.2
        obtain ⟨_, c0, _, _, hf⟩ := vcells4 hcn
        have hf0 := hf 1
        have HT := Lib.hid (And.intro hT (And.intro hSt hall2))
        clear hT hSt hall2 hall hrow hcn hf hown hkl hB hk hlt
        go_wp2_with fail
        go_ret
        rw [HRES.out, if_pos HT.out.2.2]
        exact ⟨rfl, _, _, _, HT.out.1, HT.out.2.1⟩
end Go.Proofs.YtjgdfgpnmmkjfaaGreatDoor
namespace Go.Proofs.YtjgdfgpnmmkjfaaGreatDoor
set_option linter.unusedVariables false
set_option linter.unusedSimpArgs false
open Go.RowKit Go.MapKept

section
variable {w w' : World} {B yb b : Nat} {who who' : Own} {nd : Bs → Option Nat} {S : Bs → Option ND} {l : List Bs} {k : Bs} {n n' : ND}
theorem RTr.node4 (h : RTr w B yb who nd S l) (hb : nd k = some b) (hS : S k = some n) : ∃ vs ve, w.heap[b]? = some (.cells #[.string ⟨k.toArray⟩, vs, ve, .string ⟨n.unknown.toArray⟩] 57 (0, 0)) ∧ who b = some (2, k) ∧ b < w.heap.size ∧
    w.ownsRow B 9 1 vs n.search.length (n.search.map sv) ∧ (∀ g, vs.ownBlock = some g → who g = some (3, k)) ∧
    w.ownsRow B 9 1 ve n.exports.length (n.exports.map sv) ∧ (∀ g, ve.ownBlock = some g → who g = some (4, k)) := by
  obtain ⟨h1, vs, ve, h2, h3, h4, h5, h6⟩ := h.node k b n hb hS
  exact ⟨vs, ve, h2, h1, (Array.getElem?_eq_some_iff.1 h2).1, h3, h4, h5, h6⟩
theorem RTr.unknown (h : RTr w B yb who nd S l) (hb : nd k = some b) (hS : S k = some n) (t : Bs) :
    RTr (w.setCell ⟨b, 3, none⟩ (.string ⟨t.toArray⟩)) B yb who nd (setS S k { n with unknown := t }) l ∧ Stp who who w (w.setCell ⟨b, 3, none⟩ (.string ⟨t.toArray⟩)) := by
  obtain ⟨vs, ve, hc, hwb, hbl, r1, r2, r3, r4⟩ := h.node4 hb hS
  have hset : ∀ j, j ≠ b → (w.setCell ⟨b, 3, none⟩ (.string ⟨t.toArray⟩)).heap[j]? = w.heap[j]? := fun j hj => Below.heap_setCell w ⟨b, 3, none⟩ _ j hj
  have hsz : (w.setCell ⟨b, 3, none⟩ (.string ⟨t.toArray⟩)).heap.size = w.heap.size := by simp [World.setCell]
  refine ⟨h.setNode hb (Nat.le_of_eq hsz.symm) (fun j u hj ht => hset j ?_) (fun _ _ h => h) ⟨hwb, vs, ve, heap_setCell_same w b 3 _ _ _ hc, row_keep r1 (fun g hg => hset g (by rintro rfl; have := r2 _ hg; rw [hwb] at this; cases this)), r2, row_keep r3 (fun g hg => hset g (by rintro rfl; have := r4 _ hg; rw [hwb] at this; cases this)), r4⟩ (fun j hj => by rw [hsz]; exact h.lo j hj), ⟨⟨rfl, rfl, rfl, Nat.le_of_eq hsz.symm, fun j hj hn => hset j (by rintro rfl; rw [hwb] at hn; cases hn)⟩, fun _ _ => rfl⟩⟩
  rintro rfl
  rw [hwb] at hj
  cases hj
  rcases ht with ht | ht
  · omega
  · exact ht rfl
theorem RTr.cleared (h : RTr w B yb who nd S l) (hb : nd k = some b) (hS : S k = some n) :
    RTr (w.setCell ⟨b, 2, none⟩ (.slice none 0 0)) B yb who nd (setS S k { n with exports := [] }) l ∧ Stp who who w (w.setCell ⟨b, 2, none⟩ (.slice none 0 0)) := by
  obtain ⟨vs, ve, hc, hwb, hbl, r1, r2, r3, r4⟩ := h.node4 hb hS
  have hset : ∀ j, j ≠ b → (w.setCell ⟨b, 2, none⟩ (.slice none 0 0)).heap[j]? = w.heap[j]? := fun j hj => Below.heap_setCell w ⟨b, 2, none⟩ _ j hj
  have hsz : (w.setCell ⟨b, 2, none⟩ (.slice none 0 0)).heap.size = w.heap.size := by simp [World.setCell]
  refine ⟨h.setNode hb (Nat.le_of_eq hsz.symm) (fun j u hj ht => hset j ?_) (fun _ _ h => h) ⟨hwb, vs, .slice none 0 0, heap_setCell_same w b 2 _ _ _ hc, row_keep r1 (fun g hg => hset g (by rintro rfl; have := r2 _ hg; rw [hwb] at this; cases this)), r2, ⟨rfl, .inl ⟨rfl, rfl⟩⟩, fun g hg => by simp [Value.ownBlock] at hg⟩ (fun j hj => by rw [hsz]; exact h.lo j hj), ⟨⟨rfl, rfl, rfl, Nat.le_of_eq hsz.symm, fun j hj hn => hset j (by rintro rfl; rw [hwb] at hn; cases hn)⟩, fun _ _ => rfl⟩⟩
  rintro rfl
  rw [hwb] at hj
  cases hj
  rcases ht with ht | ht
  · omega
  · exact ht rfl
/-- A pattern appended to a node's own row. -/
theorem RTr.pushed {ve : Value} {vs : Value} (h : RTr w B yb who nd S l) (hb : nd k = some b) (hS : S k = some n) (hc : w.heap[b]? = some (.cells #[.string ⟨k.toArray⟩, vs, ve, .string ⟨n.unknown.toArray⟩] 57 (0, 0))) {g c : Nat} {p : Bs}
    (hkp : Kp ve.ownBlock.toList w w') (hrow : w'.ownsRow B 9 1 (.slice (some ⟨g, 0, none⟩) (n.exports.length + 1) c) (n.exports.length + 1) (n.exports.map sv ++ [sv p])) (hg : ve.ownBlock = some g ∨ w.heap.size ≤ g) :
    ∃ who', RTr (w'.setCell ⟨b, 2, none⟩ (.slice (some ⟨g, 0, none⟩) (n.exports.length + 1) c)) B yb who' nd (setS S k { n with exports := n.exports ++ [p] }) l ∧ Stp who who' w (w'.setCell ⟨b, 2, none⟩ (.slice (some ⟨g, 0, none⟩) (n.exports.length + 1) c)) := by
  obtain ⟨vs', ve', hc', hwb, hbl, r1, r2, r3, r4⟩ := h.node4 hb hS
  rw [hc] at hc'
  simp only [Option.some.injEq, Obj.cells.injEq, and_true] at hc'
  have e1 : vs = vs' := by have := congrArg (fun a => a[1]?) hc'; simpa using this
  have e2 : ve = ve' := by have := congrArg (fun a => a[2]?) hc'; simpa using this
  subst e1 e2
  have hgl := (row_ids hrow g rfl).2
  have hgb : g ≠ b := by
    rcases hg with hg | hg
    · rintro rfl; have := r4 _ hg; rw [hwb] at this; cases this
    · omega
  have hset : ∀ j, j ≠ b → (w'.setCell ⟨b, 2, none⟩ (.slice (some ⟨g, 0, none⟩) (n.exports.length + 1) c)).heap[j]? = w'.heap[j]? := fun j hj => Below.heap_setCell w' ⟨b, 2, none⟩ _ j hj
  have hsz : (w'.setCell ⟨b, 2, none⟩ (.slice (some ⟨g, 0, none⟩) (n.exports.length + 1) c)).heap.size = w'.heap.size := by simp [World.setCell]
  have hkeep : ∀ j, j < w.heap.size → j ≠ b → who j ≠ some (4, k) → (w'.setCell ⟨b, 2, none⟩ (.slice (some ⟨g, 0, none⟩) (n.exports.length + 1) c)).heap[j]? = w.heap[j]? := fun j hj hne h4 => by
    rw [hset j hne]
    refine hkp.block j hj (fun hm => h4 ?_)
    exact r4 j (by simpa using hm)
  have hmono : ∀ j t, who j = some t → who.set g (4, k) j = some t := fun j t hj => by
    by_cases hjg : j = g
    · subst hjg
      rw [Own.set_same]
      rcases hg with hg | hg
      · rw [r4 _ hg] at hj; exact hj
      · have := (h.lo j (by rw [hj]; simp)).2; omega
    · rw [Own.set_other hjg]; exact hj
  have hbw : w'.heap[b]? = some (.cells #[.string ⟨k.toArray⟩, vs, ve, .string ⟨n.unknown.toArray⟩] 57 (0, 0)) := by
    rw [hkp.block b hbl (fun hm => by have := r4 b (by simpa using hm); rw [hwb] at this; cases this)]; exact hc
  refine ⟨who.set g (4, k), h.setNode hb (by rw [hsz]; exact hkp.size) (fun j t hj ht => hkeep j (h.lo j (by rw [hj]; simp)).2 ?_ ?_) hmono ⟨hmono _ _ hwb, vs, _, heap_setCell_same w' b 2 _ _ _ hbw, row_keep r1 (fun j hj => hkeep j ?_ ?_ ?_), fun j hj => hmono _ _ (r2 j hj), ?_, fun j hj => ?_⟩ (fun j hj => ?_), ⟨⟨hkp.os, hkp.tape, hkp.output, by rw [hsz]; exact hkp.size, fun j hj hn => hkeep j hj (by rintro rfl; rw [hwb] at hn; cases hn) (by rw [hn]; simp)⟩, fun j hj => ?_⟩⟩
  · rintro rfl
    rw [hwb] at hj; cases hj
    rcases ht with ht | ht
    · omega
    · exact ht rfl
  · intro h4
    rw [h4] at hj; cases hj
    rcases ht with ht | ht
    · omega
    · exact ht rfl
  · exact (h.lo j (by rw [r2 j hj]; simp)).2
  · rintro rfl; have := r2 _ hj; rw [hwb] at this; cases this
  · rw [r2 j hj]; simp
  · have e : (n.exports ++ [p]).length = n.exports.length + 1 := by simp
    show World.ownsRow _ _ _ _ _ _ _
    rw [e, List.map_append]
    refine row_keep hrow (fun j hj => hset j ?_)
    have : g = j := by simpa [Value.ownBlock] using hj
    subst this; exact hgb
  · have : g = j := by simpa [Value.ownBlock] using hj
    subst this; exact Own.set_same _ _ _
  · by_cases hjg : j = g
    · subst hjg
      rw [hsz]
      exact ⟨(row_ids hrow j rfl).1, hgl⟩
    · rw [Own.set_other hjg] at hj
      have := h.lo j hj
      rw [hsz]
      exact ⟨this.1, Nat.lt_of_lt_of_le this.2 hkp.size⟩
  · by_cases hjg : j = g
    · subst hjg
      rcases hg with hg | hg
      · rw [Own.set_same, r4 _ hg]
      · omega
    · exact Own.set_other hjg
end
set_option maxHeartbeats 800000 in
theorem rSetUnknown_any {w : World} {B yb : Nat} {who : Own} {nd : Bs → Option Nat} {S : Bs → Option ND} {l : List Bs} (h : RTr w B yb who nd S l) (hll : l.length ≤ 1000000) (path t : Bs) (hp : path.length ≤ 100000) :
    Calls Tryz.prog 30 #[.pointer (some ⟨yb, 0, none⟩), .string ⟨path.toArray⟩, .string ⟨t.toArray⟩] w fun e w' => e = .returned (.int .i64 (unkS S path t).1) ∧ ∃ who' nd' l', RTr w' B yb who' nd' (unkS S path t).2 l' ∧ Stp who who' w w' := by
  have A0 := rat_any h hll path hp
  unfold unkS
  cases hnd : nd (canonN rootN path) with
  | none =>
    rw [h.none_of hnd]
    rw [hnd] at A0
    have A1 : Hid (Calls Tryz.prog 56 #[.pointer (some ⟨yb, 0, none⟩), .string ⟨path.toArray⟩] w fun e w' => e = .returned (.pointer none) ∧ Below w.heap.size w w') := A0
    have H := Lib.hid h
    clear h A0 hnd hp
    go_enter Tryz.func30, Tryz.ntmps30
    go_wp2_with (go_at_call 56; refine A1.out.mono ?_; rintro e w2 ⟨rfl, hB⟩; have HB := Lib.hid hB; clear hB)
    go_ret
    exact ⟨rfl, who, nd, l, H.out.low HB.out, Stp.of_below HB.out⟩
  | some b =>
    obtain ⟨n, hS, _⟩ := h.has hnd
    rw [hS]
    rw [hnd] at A0
    have A1 : Hid (Calls Tryz.prog 56 #[.pointer (some ⟨yb, 0, none⟩), .string ⟨path.toArray⟩] w fun e w' => e = .returned (.pointer (some ⟨b, 0, none⟩)) ∧ Below w.heap.size w w') := A0
    have H := Lib.hid (And.intro h (And.intro hnd hS))
    clear h A0 hnd hS hp
    go_enter Tryz.func30, Tryz.ntmps30
    go_wp2_with (go_at_call 56; refine A1.out.mono ?_; rintro e w2 ⟨rfl, hB⟩; obtain ⟨vs, ve, hcn, _⟩ := (H.out.1.low hB).node4 H.out.2.1 H.out.2.2; obtain ⟨_, _, _, c2, hf⟩ := vcells4 hcn; have hf2 := hf 3; have HU := Lib.hid ((H.out.1.low hB).unknown H.out.2.1 H.out.2.2 t); have HB := Lib.hid hB; clear hB hf hcn)
    go_ret
    exact ⟨rfl, who, nd, l, HU.out.1, (Stp.of_below HB.out).trans HU.out.2⟩
theorem has_take {L : List Bs} {k : Nat} (hk : k < L.length) (x : Bs) : hasB (L.take (k + 1)) x = (hasB (L.take k) x || (L[k] == x)) := by
  unfold hasB
  rw [List.take_succ_eq_append_getElem hk, List.any_append]; simp
set_option maxHeartbeats 800000 in
theorem rhas_any {w : World} {v : Value} {L : List Bs} (h : TxtRow w v L) (hn : L.length ≤ 1000000) (x : Bs) : Calls Tryz.prog 61 #[v, .string ⟨x.toArray⟩] w fun e w' => e = .returned (.bool (hasB L x)) ∧ w = w' := by
  obtain ⟨o, c, rfl⟩ := h.len
  obtain ⟨hh, h1, h2, h3⟩ := h.at_
  unfold maxLen at h2
  have HC := Lib.hid h3
  obtain ⟨n, hnn⟩ : ∃ n, L.length = n := ⟨_, rfl⟩
  have HN := Lib.hid hnn
  rw [hnn] at hn h1 ⊢
  clear h h3 hnn hh
  go_enter Tryz.func61, Tryz.ntmps61
  go_wp2_with fail
  go_loopw [9] (fun q wr => ∃ k : Nat, k ≤ n ∧ q = .int .i64 (k : Int) ∧ hasB (L.take k) x = false ∧ w = wr) (fun q _ => n - (intOf q).toNat)
  case atStart => exact ⟨0, Nat.zero_le _, rfl, rfl, rfl⟩
  case round =>
    obtain ⟨k, hk, rfl, hno, rfl⟩ := hrel
    have hnl := HN.out
    by_cases hlt : k < n
    · obtain ⟨gb, off, rfl, hgl, hc0⟩ := HC.out k (by omega)
      have hst := has_take (L := L) (k := k) (by omega) x
      have hin : L[k]'(by omega) = x → hasB L x = true := fun e => List.any_eq_true.2 ⟨L[k]'(by omega), List.getElem_mem _, by rw [e]; simp⟩
      generalize L[k]'(by omega) = p at *
      have hcx : w.cell? ⟨gb, off + k, none⟩ = some (.string ⟨p.toArray⟩) := hc0
      have t0 : decide ((k : Int) < (n : Int)) = true := by rw [decide_eq_true_eq]; omega
      have i1 : k < n := hlt
      have hw1 : IntKind.i64.wrap ((k : Int) + 1) = (k : Int) + 1 := IntWalk.i64_in _ (by omega)
      by_cases hpx : p = x
      · subst hpx
        have HI := Lib.hid (hin rfl)
        clear hst hin hno hc0 hlt hk hnl
        go_wp2_with fail
        go_ret
        exact ⟨by rw [HI.out]; rfl, rfl⟩
      · have e1 : (p == x) = false := beq_eq_false_iff_ne.2 hpx
        have e2 : (⟨p.toArray⟩ : ByteArray) ≠ ⟨x.toArray⟩ := fun e => hpx (by simpa using e)
        have HI : Hid (k < n ∧ hasB (L.take (k + 1)) x = false) := ⟨hlt, by rw [hst, hno, e1]; rfl⟩
        clear hst hin hno hc0 hlt hk hnl hpx
        go_wp2_with fail
        exact ⟨⟨k + 1, by have := HI.out; omega, by go_num, HI.out.2, trivial⟩, by have := HI.out; simp [intOf]; omega⟩
    · have hkn : k = n := by omega
      subst hkn
      rw [List.take_of_length_le (by omega)] at hno
      have t0 : decide ((k : Int) < (k : Int)) = false := by rw [decide_eq_false_iff_not]; omega
      have HI := Lib.hid hno
      clear hno hk hlt hnl
      go_wp2_with fail
      go_ret
      exact ⟨by rw [HI.out]; rfl, rfl⟩
set_option maxRecDepth 100000 in
set_option maxHeartbeats 1600000 in
theorem rExport_any {w : World} {B yb : Nat} {who : Own} {nd : Bs → Option Nat} {S : Bs → Option ND} {l : List Bs} (h : RTr w B yb who nd S l) (hll : l.length ≤ 1000000) (path : Bs) (hp : path.length ≤ 100000) (L : List Bs) (clear : Bool) (hn : L.length ≤ 100000) (hE : ∀ n, S (canonN rootN path) = some n → n.exports.length ≤ 100000) {v : Value} (hv : TxtRow w v L) (hvn : ∀ o n c, v = .slice (some o) n c → 0 < n → who o.block = none) :
    Calls Tryz.prog 28 #[.pointer (some ⟨yb, 0, none⟩), .string ⟨path.toArray⟩, v, .bool clear] w fun e w' => e = .returned (.int .i64 (expS S path L clear).1) ∧ ∃ who' nd' l', RTr w' B yb who' nd' (expS S path L clear).2 l' ∧ Stp who who' w w' := by
  obtain ⟨ao, ac, rfl⟩ := hv.len
  have A0 := rat_any h hll path hp
  unfold expS
  cases hnd : nd (canonN rootN path) with
  | none =>
    rw [h.none_of hnd]
    rw [hnd] at A0
    have A1 : Hid (Calls Tryz.prog 56 #[.pointer (some ⟨yb, 0, none⟩), .string ⟨path.toArray⟩] w fun e w' => e = .returned (.pointer none) ∧ Below w.heap.size w w') := A0
    have H := Lib.hid h
    clear h A0 hnd hp hv hE hvn
    go_enter Tryz.func28, Tryz.ntmps28
    go_wp2_with (go_at_call 56; refine A1.out.mono ?_; rintro e w2 ⟨rfl, hB⟩; have HB := Lib.hid hB; clear hB)
    go_ret
    exact ⟨rfl, who, nd, l, H.out.low HB.out, Stp.of_below HB.out⟩
  | some b =>
    obtain ⟨nn, hS, _⟩ := h.has hnd
    have hE2 := hE nn hS
    rw [hS]
    rw [hnd] at A0
    have A1 : Hid (Calls Tryz.prog 56 #[.pointer (some ⟨yb, 0, none⟩), .string ⟨path.toArray⟩] w fun e w' => e = .returned (.pointer (some ⟨b, 0, none⟩)) ∧ Below w.heap.size w w') := A0
    obtain ⟨key, hkey⟩ : ∃ key, canonN rootN path = key := ⟨_, rfl⟩
    rw [hkey] at hnd hS ⊢
    show Calls _ _ _ _ fun e w' => e = .returned (.int .i64 0) ∧ ∃ who' nd' l', RTr w' B yb who' nd' (setS S key { nn with exports := expL (ex0 nn clear) L }) l' ∧ Stp who who' w w'
    obtain ⟨_, hlc, hcm, hcell⟩ := hv.at_
    unfold maxLen at hcm
    have hx0 : (ex0 nn clear).length ≤ 100000 := by unfold ex0; split; simp; exact hE2
    obtain ⟨n, hnl⟩ : ∃ n, L.length = n := ⟨_, rfl⟩
    rw [hnl] at hlc hn hvn ⊢
    have HV := Lib.hid hv
    have HN := Lib.hid (And.intro hnl (And.intro hnd (And.intro hS hx0)))
    have HU : Hid (0 < n → ∀ a, ao = some a → who a.block = none) := fun hp a ha => hvn a n ac (by rw [ha]) hp
    have H := Lib.hid h
    -- the start of the loop
    have HST : Hid (∀ W, Below w.heap.size w W → clear = false → RTr W B yb who nd (setS S key { nn with exports := expL (ex0 nn clear) [] }) l ∧ Stp who who w W) := fun W hb hcl => by
      subst hcl
      rw [show ({ nn with exports := expL (ex0 nn false) [] } : ND) = nn from rfl, setS_self hS]
      exact ⟨h.low hb, Stp.of_below hb⟩
    have HSC : Hid (∀ W, Below w.heap.size w W → clear = true → RTr (W.setCell ⟨b, 2, none⟩ (.slice none 0 0)) B yb who nd (setS S key { nn with exports := expL (ex0 nn clear) [] }) l ∧ Stp who who w (W.setCell ⟨b, 2, none⟩ (.slice none 0 0))) := fun W hb hcl => by
      subst hcl
      have h2 := (h.low hb).cleared hnd hS
      exact ⟨h2.1, (Stp.of_below hb).trans h2.2⟩
    have HCE : Hid (∀ W, Below w.heap.size w W → ∃ ve, W.cell? ⟨b, 2, none⟩ = some ve ∧ ∀ i, W.frozen? ⟨b, i, none⟩ = false) := fun W hb => by
      obtain ⟨vs, ve, hcn, _⟩ := (h.low hb).node4 hnd hS
      obtain ⟨_, _, c1, _, hf⟩ := vcells4 hcn
      exact ⟨ve, c1, hf⟩
    clear h hv hcell hE hnl hnd hS A0 hp hkey hvn hx0 hE2
    go_enter Tryz.func28, Tryz.ntmps28
    cases hcl : clear
    all_goals
      go_wp2_with (go_at_call 56; refine A1.out.mono ?_; rintro e w1 ⟨rfl, hB⟩; obtain ⟨ve, c1, hf⟩ := HCE.out _ hB; have hf1 := hf 2; have HB1 := Lib.hid hB; clear hB hf)
      go_loopw [23] (fun q wr => ∃ k : Nat, k ≤ n ∧ q = .int .i64 (k : Int) ∧ ∃ who', RTr wr B yb who' nd (setS S key { nn with exports := expL (ex0 nn clear) (L.take k) }) l ∧ Stp who who' w wr) (fun q _ => n - (intOf q).toNat)
      case atStart => first | exact ⟨0, Nat.zero_le _, rfl, who, HST.out _ HB1.out hcl⟩ | exact ⟨0, Nat.zero_le _, rfl, who, HSC.out _ HB1.out hcl⟩
      case round =>
        obtain ⟨k, hk, rfl, who1, hT, hSt⟩ := hrel
        clear c1 hf1
        by_cases hlt : k < n
        · have hkl : k < L.length := by have := HN.out.1; omega
          have hrow := HV.out.fr (HU.out (by omega)) hSt.fr
          obtain ⟨hh, _, _, hcell⟩ := hrow.at_
          obtain ⟨gb, off, rfl, hgl, hc0⟩ := hcell k hkl
          have hstep := expL_snoc (ex0 nn clear) L k hkl
          have hlen := exp_len (L.take k) (ex0 nn clear)
          have hlb : (expL (ex0 nn clear) (L.take k)).length ≤ 300000 := by
            have : (L.take k).length ≤ k := by simp; omega
            have := HN.out.2.2.2
            omega
          obtain ⟨vs, v1, hcn, hwb, hbl, r1, r2, r3, r4⟩ := hT.node4 HN.out.2.1 (setS_at _ _ _)
          obtain ⟨_, _, d1, _, hf⟩ := vcells4 hcn
          have hf1 := hf 2
          simp only at r3
          have HPU := Lib.hid (fun w' g c p => hT.pushed (w' := w') (g := g) (c := c) (p := p) HN.out.2.1 (setS_at _ _ _) hcn)
          have HCB := Lib.hid (fun (w' : World) (hk' : Kp v1.ownBlock.toList wr w') => by
            have hb' := (hk'.block b hbl (fun hm => by have := r4 b (by simpa using hm); rw [hwb] at this; cases this)).trans hcn
            obtain ⟨_, _, d1', _, hf'⟩ := vcells4 hb'
            exact And.intro d1' (hf' 2))
          obtain ⟨eo, ec, rfl⟩ := owns_slice r3
          have hco := fun x => rhas_any (TxtRow.of_owns r3) (by omega) x
          generalize L[k] = p at *
          have hcx : wr.cell? ⟨gb, off + k, none⟩ = some (.string ⟨p.toArray⟩) := hc0
          have t0 : decide ((k : Int) < (n : Int)) = true := by rw [decide_eq_true_eq]; omega
          have i1 : k < n := hlt
          have hw1 : IntKind.i64.wrap ((k : Int) + 1) = (k : Int) + 1 := IntWalk.i64_in _ (by omega)
          obtain ⟨ex, hex⟩ : ∃ ex, expL (ex0 nn clear) (L.take k) = ex := ⟨_, rfl⟩
          simp only [hex] at r3 hco hstep hlb HPU HCB d1 hT
          have HT := Lib.hid (And.intro hT hSt)
          obtain ⟨en, hen⟩ : ∃ en, ex.length = en := ⟨_, rfl⟩
          simp only [hen] at r3 hco hlb d1 HPU HCB
          have HR := Lib.hid r3
          have HK := Lib.hid (And.intro hlt (And.intro hen hex))
          have HSTEP := Lib.hid hstep
          have HCO := hco p
          have hbase := hT.base
          clear hT hSt hrow hcell hc0 hlen hcn hwb hbl r1 r2 r3 r4 hf hco hex hen hstep hlt hk hkl hh
          cases hhs : hasB ex p with
          | true =>
            rw [hhs] at HCO
            have HC := Lib.hid HCO
            have HEQ : Hid (expL (ex0 nn clear) (L.take (k + 1)) = ex) := by show _ = _; rw [HSTEP.out]; unfold expStep; rw [hhs]; rfl
            clear HCO hhs
            go_wp2_with (go_at_call 61; refine HC.out.mono ?_; rintro e w2 ⟨rfl, rfl⟩)
            exact ⟨⟨k + 1, by have := HK.out; omega, by go_num, who1, by rw [HEQ.out]; exact HT.out.1, HT.out.2⟩, by have := HK.out; simp [intOf]; omega⟩
          | false =>
            rw [hhs] at HCO
            have HC := Lib.hid HCO
            have HEQ : Hid (expL (ex0 nn clear) (L.take (k + 1)) = ex ++ [p]) := by show _ = _; rw [HSTEP.out]; unfold expStep; rw [hhs]; rfl
            clear HCO hhs
            go_wp2_with (first | (go_at_call 61; refine HC.out.mono ?_; rintro e w2 ⟨rfl, rfl⟩) | (at_builtin; go_loud (refine wpList_push1 rfl (.tmp 38) (.tmp 40) 27 rfl B 9 (.string ⟨#[]⟩) 16 Tryz.underlying27 infoStr rfl (.slice eo en ec) en _ rfl HR.out (.string ⟨p.toArray⟩) _ rfl rfl rfl (by unfold maxLen; omega) (by omega) hbase ?_); intro g1 c1 w3 hg1 hown3 hk3 hloc; have HPX := Lib.hid (HPU.out w3 g1 c1 p hk3 hown3 hloc); obtain ⟨x1, xf⟩ := HCB.out w3 hk3; clear hg1 hown3 hk3 hloc))
            obtain ⟨who2, hT2, hS2⟩ := HPX.out
            rw [setS_setS] at hT2
            exact ⟨⟨k + 1, by have := HK.out; omega, by go_num, who2, by rw [HEQ.out]; exact hT2, HT.out.2.trans hS2⟩, by have := HK.out; simp [intOf]; omega⟩
        · have hkn : k = n := by omega
          subst hkn
          have t0 : decide ((k : Int) < (k : Int)) = false := by rw [decide_eq_false_iff_not]; omega
          have hnn := HN.out.1
          rw [List.take_of_length_le (by omega)] at hT
          have HT := Lib.hid (And.intro hT hSt)
          clear hT hSt hk hlt hnn
          go_wp2_with fail
          go_ret
          exact ⟨rfl, who1, nd, l, by have := HT.out.1; rw [hcl] at this; exact this, HT.out.2⟩
end Go.Proofs.YtjgdfgpnmmkjfaaGreatDoor

/- The reference's reading of a text by a form: read. Printed by mkCRdJ.py. -/
import Derived.Test.YtkahakhhdiffcaaGreatDoorCRdI
import Derived.Test.YtkahakhhdiffcaaGreatDoorPush
import Derived.Test.YtkahakhhdiffcaaGreatDoorPush1
import Derived.Deep.RegionLaw
import Derived.Deep.CutRange
namespace Go.Proofs.YtkahakhhdiffcaaGreatDoor
set_option linter.unusedVariables false
set_option linter.unusedSimpArgs false
open Go.RowKit Go.Shelf Go.MapKept
theorem step_append_one {P : Program} {ops : Array Oper} {o : Oper} {a : Act} {w : World} {K : Act → World → Prop} {Q : Exit → Act → World → Prop} {E : Prop}
    (hg : o.guard = none) (s xo : Operand) (t : TypeId) (hop : o.op = Op.call { callee := Callee.builtin Builtin.append, args := #[s, xo], argTypes := #[t, t] })
    (base : Nat) (e : TypeId) (z : Value) (bytes : Nat) (ht : P.underlying t = some (.slice e)) (hi : (P.info? e).map (fun i => (i.zero, i.size, i.bytes)) = some (some z, 1, bytes)) (hz : z.cells.size = 1)
    (v : Value) (n : Nat) (xs : List Value) (hs : a.eval s = v) (w0 : World) (hown : w0.ownsRow base e 1 v n xs)
    (x : Value) (hw : w = w0.alloc (.cells #[x] e)) (hx : a.eval xo = .slice (some ⟨w0.heap.size, 0, none⟩) 1 1) (hx1 : x.oneCell' = true)
    (hn : n + 1 ≤ maxLen) (hbytes : (n + 1) * bytes ≤ 140737488355328) (hbase : base ≤ w0.heap.size)
    (hK : ∀ g cap w', base ≤ g → w'.ownsRow base e 1 (.slice (some ⟨g, 0, none⟩) (n + 1) cap) (n + 1) (xs ++ [x]) → Kp v.ownBlock.toList w0 w' → (v.ownBlock = some g ∨ w0.heap.size ≤ g) → K (a.put o.dst (.slice (some ⟨g, 0, none⟩) (n + 1) cap)) w') :
    if Region.wanted o (yielded ops a.tmps) = true then Oper.wp P o a w K Q else E := by
  subst hw
  have hwn : Region.wanted o (yielded ops a.tmps) = true := by simp [Region.wanted, hg]
  rw [if_pos hwn]
  obtain ⟨i0, hi0, hz0, hz1, hz2⟩ := info_parts hi
  obtain ⟨v', w', hrun, r1, r2, _, hloc⟩ := run_append_own_at (P := P) (w := w0.alloc (.cells #[x] e)) base t o.type e i0 z 1 bytes ht hi0 hz0 hz1 hz2 hz (by decide) v n xs (hown.alloc (.cells #[x] e)) ⟨w0.heap.size, 0, none⟩ 1 1 [x] rfl (fun j u hj => row_new w0 [x] e j u hj) (fun u hu => by rw [List.mem_singleton.1 hu]; exact hx1) hn hbytes (by simp; omega)
  unfold Oper.wp
  simp [execOp, hop, resolve, invoke, builtin, hs, hx, hrun, Result.andThen]
  have hk : Kp v.ownBlock.toList w0 w' := ((Kp.refl _ w0).alloc _).grown r2 (fun b hb => by rw [hb]; simp)
  rcases r1.2 with ⟨_, h0⟩ | ⟨g, cap, cur, rfl, hg', _⟩
  · omega
  · exact hK g cap w' hg' r1 hk (by rcases hloc with e | e; exact .inl e.symm; exact .inr (by simp [Value.ownBlock] at e; omega))

theorem got_result2 {fn : Func} {p u : Tmp} (h : fn.results = #[.cell p 91, .tmp u]) (tmps : Array Value) (w : World) (g : Nat) (cs : Array Value) (t : Nat) (fr : Nat × Nat)
    (hp : tmps.getD p undef = .pointer (some ⟨g, 0, none⟩)) (hg : w.heap[g]? = some (.cells cs t fr)) (hc : cs.size = 2) (v : Value) (hv : tmps.getD u undef = v) : (results fn tmps).run Tryz.prog w = .ok (.tuple #[.agg cs, v]) w := by
  rw [results_cell_tmp h, hp, hv]
  have := run_loadVar_row w g t 91 cs fr _ hg Tryz.underlying91 rfl (by rw [hc]; kernel_rfl)
  simp [asAddr, Result.andThen, this]
/-- The result's box, the box of what was read, the row of texts. -/
structure RSt (w wr : World) (L : Bs) (G : GotL) (ao : Option Addr) (cap b : Nat) : Prop where
  below : Below w.heap.size w wr
  res : wr.heap[w.heap.size]? = some (.cells #[.string ⟨#[]⟩, .slice none 0 0] 91)
  box : wr.heap[b]? = some (.cells #[.string ⟨L.toArray⟩, .slice ao G.length cap] 91)
  row : wr.ownsRow (b + 1) 9 1 (.slice ao G.length cap) G.length (G.map fun p => .string ⟨p.2.toArray⟩)
  lt : w.heap.size < b
section
variable {w wr : World} {L : Bs} {G : GotL} {ao : Option Addr} {cap b : Nat}
theorem RSt.drew (h : RSt w wr L G ao cap b) : RSt w wr.drew L G ao cap b := ⟨h.below.drew, h.res, h.box, h.row, h.lt⟩
theorem row_keepB {w w' : World} {B n : Nat} {e : TypeId} {v : Value} {xs : List Value} (h : w.ownsRow B e 1 v n xs) (hk : ∀ g, v.ownBlock = some g → w'.heap[g]? = w.heap[g]?) : w'.ownsRow B e 1 v n xs := by
  refine ⟨h.1, ?_⟩
  rcases h.2 with h0 | ⟨g, cap, cur, rfl, hb, hg, rest⟩
  · exact .inl h0
  · exact .inr ⟨g, cap, cur, rfl, hb, (hk g rfl).trans hg, rest⟩
theorem row_idB {w : World} {B n : Nat} {e : TypeId} {v : Value} {xs : List Value} (h : w.ownsRow B e 1 v n xs) : ∀ g, v.ownBlock = some g → B ≤ g ∧ g < w.heap.size := by
  intro g hg
  rcases h.2 with ⟨rfl, h0⟩ | ⟨g', cap, cur, rfl, hb, hg', rest⟩
  · simp [Value.ownBlock] at hg
  · have : g' = g := by simpa [Value.ownBlock] using hg
    subst this
    exact ⟨hb, (Array.getElem?_eq_some_iff.1 hg').1⟩
theorem RSt.next (h : RSt w wr L G ao cap b) {w' : World} (hb : Below wr.heap.size wr w') : RSt w w' L G ao cap b :=
  ⟨h.below.trans (hb.mono h.below.size), (hb.block _ (Array.getElem?_eq_some_iff.1 h.res).1).trans h.res, (hb.block _ (Array.getElem?_eq_some_iff.1 h.box).1).trans h.box, row_keepB h.row (fun g hg => hb.block g (row_idB h.row g hg).2), h.lt⟩
theorem RSt.facts (h : RSt w wr L G ao cap b) : wr.cell? ⟨b, 0, none⟩ = some (.string ⟨L.toArray⟩) ∧ wr.cell? ⟨b, 1, none⟩ = some (.slice ao G.length cap) ∧ (∀ i, wr.frozen? ⟨b, i, none⟩ = false) ∧ wr.cell? ⟨w.heap.size, 0, none⟩ = some (.string ⟨#[]⟩) ∧ wr.cell? ⟨w.heap.size, 1, none⟩ = some (.slice none 0 0) ∧ (∀ i, wr.frozen? ⟨w.heap.size, i, none⟩ = false) := by
  have hb := h.box
  have hr := h.res
  refine ⟨?_, ?_, fun i => by simp [World.frozen?, hb], ?_, ?_, fun i => by simp [World.frozen?, hr]⟩ <;> first | (simp only [World.cell?, hb]; rfl) | (simp only [World.cell?, hr]; rfl)
theorem RSt.letter (h : RSt w wr L G ao cap b) (L' : Bs) : RSt w (wr.setCell ⟨b, 0, none⟩ (.string ⟨L'.toArray⟩)) L' G ao cap b := by
  have hO := Below.heap_setCell wr ⟨b, 0, none⟩ (.string ⟨L'.toArray⟩)
  have hlt := h.lt
  refine ⟨h.below.setCell (by show w.heap.size ≤ b; omega) _, (hO _ (by show w.heap.size ≠ b; omega)).trans h.res, heap_setCell_same wr b 0 _ _ _ h.box, row_keepB h.row (fun g hg => hO g (by have := (row_idB h.row g hg).1; show g ≠ b; omega)), hlt⟩
theorem RSt.push (h : RSt w wr L G ao cap b) (c : UInt8) (x : Bs) {g c6 : Nat} {w6 : World} (hr : w6.ownsRow (b + 1) 9 1 (.slice (some ⟨g, 0, none⟩) (G.length + 1) c6) (G.length + 1) ((G.map fun p => .string ⟨p.2.toArray⟩) ++ [.string ⟨x.toArray⟩])) (hk : Kp (Value.slice ao G.length cap).ownBlock.toList wr w6) (hg : b + 1 ≤ g) :
    RSt w (w6.setCell ⟨b, 1, none⟩ (.slice (some ⟨g, 0, none⟩) (G.length + 1) c6)) L (G ++ [(c, x)]) (some ⟨g, 0, none⟩) c6 b := by
  have hO := Below.heap_setCell w6 ⟨b, 1, none⟩ (.slice (some ⟨g, 0, none⟩) (G.length + 1) c6)
  have hlt := h.lt
  have hid : ∀ d ∈ (Value.slice ao G.length cap).ownBlock.toList, b + 1 ≤ d := fun d hd => (row_idB h.row d (by simpa using hd)).1
  have hb0 : b < wr.heap.size := (Array.getElem?_eq_some_iff.1 h.box).1
  have hbx := (hk.block b hb0 (fun hm => by have := hid b hm; omega)).trans h.box
  have hrs := (hk.block w.heap.size (by omega) (fun hm => by have := hid _ hm; omega)).trans h.res
  have hlen : (G ++ [(c, x)]).length = G.length + 1 := by simp
  refine ⟨(h.below.trans (hk.below (B := w.heap.size) (by omega) (fun d hd => by have := hid d hd; omega))).setCell (by show w.heap.size ≤ b; omega) _, (hO _ (by show w.heap.size ≠ b; omega)).trans hrs, ?_, ?_, hlt⟩
  · rw [hlen]; exact heap_setCell_same w6 b 1 _ _ _ hbx
  · rw [hlen, List.map_append]
    refine row_keepB hr (fun g' hg' => hO g' ?_)
    have : g = g' := by simpa [Value.ownBlock] using hg'
    subst this
    show g ≠ b
    omega
theorem RSt.mid (h : RSt w wr L G ao cap b) {w6 : World} (hk : Kp (Value.slice ao G.length cap).ownBlock.toList wr w6) : w6.cell? ⟨b, 1, none⟩ = some (.slice ao G.length cap) ∧ ∀ i, w6.frozen? ⟨b, i, none⟩ = false := by
  have hid : ∀ d ∈ (Value.slice ao G.length cap).ownBlock.toList, b + 1 ≤ d := fun d hd => (row_idB h.row d (by simpa using hd)).1
  have hb0 : b < wr.heap.size := (Array.getElem?_eq_some_iff.1 h.box).1
  have hbx := (hk.block b hb0 (fun hm => by have := hid b hm; omega)).trans h.box
  exact ⟨by simp only [World.cell?, hbx]; rfl, fun i => by simp [World.frozen?, hbx]⟩
theorem RSt.grow (h : RSt w wr L G ao cap b) : GRow wr ao G := by
  intro k p hp
  have hk : k < G.length := (List.getElem?_eq_some_iff.1 hp).1
  have hrow := h.row
  rcases hrow.2 with ⟨h1, h0⟩ | ⟨g0, cap', cur, h1, _⟩
  · omega
  · injection h1 with h1 _ _
    subst h1
    refine ⟨g0, rfl, ?_⟩
    have := hrow.cellAt k (by omega)
    rw [List.getElem?_map, hp] at this
    exact this
theorem RSt.new {w0 : World} (hb : Below w.heap.size w w0) (hr : w0.heap[w.heap.size]? = some (.cells #[.string ⟨#[]⟩, .slice none 0 0] 91)) : RSt w (w0.alloc (.cells #[.string ⟨#[]⟩, .slice none 0 0] 91)) [] [] none 0 w0.heap.size :=
  ⟨hb.alloc hb.size _, (Below.heap_alloc _ _ _ (Array.getElem?_eq_some_iff.1 hr).1).trans hr, heap_alloc_new w0 _, ⟨rfl, .inl ⟨rfl, rfl⟩⟩, (Array.getElem?_eq_some_iff.1 hr).1⟩
end
theorem set2_heap {w : World} {b : Nat} {a c x y : Value} {t : Nat} (h : w.heap[b]? = some (.cells #[a, c] t)) : ((w.setCell ⟨b, 0, none⟩ x).setCell ⟨b, 1, none⟩ y).heap[b]? = some (.cells #[x, y] t) := by
  have h1 := heap_setCell_same w b 0 _ _ x h
  have h2 := heap_setCell_same _ b 1 _ _ y h1
  exact h2
theorem set2_below {w w2 : World} {b : Nat} {x y : Value} (h : Below w.heap.size w w2) (hb : w.heap.size ≤ b) : Below w.heap.size w ((w2.setCell ⟨b, 0, none⟩ x).setCell ⟨b, 1, none⟩ y) := (h.setCell hb _).setCell hb _
theorem RSt.fin {w wr : World} {L : Bs} {G : GotL} {ao : Option Addr} {cap b : Nat} (h : RSt w wr L G ao cap b) (x y : Value) : GRow ((wr.setCell ⟨w.heap.size, 0, none⟩ x).setCell ⟨w.heap.size, 1, none⟩ y) ao G := by
  intro k p hp
  obtain ⟨g0, h1, h2⟩ := h.grow k p hp
  have hid := row_idB h.row g0 (by rw [h1]; rfl)
  have hlt := h.lt
  refine ⟨g0, h1, ?_⟩
  have o1 := Below.heap_setCell wr ⟨w.heap.size, 0, none⟩ x g0 (by show g0 ≠ w.heap.size; omega)
  have o2 := Below.heap_setCell (wr.setCell ⟨w.heap.size, 0, none⟩ x) ⟨w.heap.size, 1, none⟩ y g0 (by show g0 ≠ w.heap.size; omega)
  simp only [World.cell?, o2, o1] at h2 ⊢
  exact h2
def ReadRes (w : World) (s form : Bs) (e : Ending) (w' : World) : Prop := Below w.heap.size w w' ∧ ((readR s form = none ∧ ∃ l ao n cap, e = .returned (.tuple #[.agg #[.string l, .slice ao n cap], .bool false])) ∨ ∃ G ao cap, readR s form = some G ∧ e = .returned (.tuple #[.agg #[.string ⟨(G.map (·.1)).toArray⟩, .slice ao G.length cap], .bool true]) ∧ GRow w' ao G)
set_option maxRecDepth 100000 in
set_option maxHeartbeats 6400000 in
theorem rread_any (s form : Bs) (hs : s.length ≤ 10000) (hf : form.length ≤ 10000) (w : World) (hP : PowIs w) :
    Calls Tryz.prog 38 #[.string ⟨s.toArray⟩, .string ⟨form.toArray⟩] w (ReadRes w s form) := by
  have hb0 := below_alloc1 w (.cells #[.string ⟨#[]⟩, .slice none 0 0] 91)
  have hz0 := heap_alloc_new w (.cells #[.string ⟨#[]⟩, .slice none 0 0] 91)
  have hsp := rspread_any form (by omega) (w.alloc (.cells #[.string ⟨#[]⟩, .slice none 0 0] 91)) (hP.below hb0)
  clear hP
  rcases flat_law _ form (Nat.le_refl _) with ⟨h1, h2⟩ | ⟨l, h1, h2, hPG⟩
  · have hn : readR s form = none := by unfold readR; rw [h2]
    have SP : Hid (Calls Tryz.prog 87 #[.string ⟨form.toArray⟩] (w.alloc (.cells #[.string ⟨#[]⟩, .slice none 0 0] 91)) fun e w' => e = .returned (.tuple #[.string ⟨#[]⟩, .bool false]) ∧ Below w.heap.size w w' ∧ w'.heap[w.heap.size]? = some (.cells #[.string ⟨#[]⟩, .slice none 0 0] 91)) := hsp.mono fun e w' hh => by
      obtain ⟨hb, hh⟩ := hh
      rcases hh with ⟨_, h⟩ | ⟨f, hf, _⟩
      · exact ⟨h, hb0.trans (hb.mono hb0.size), (hb.block _ (Array.getElem?_eq_some_iff.1 hz0).1).trans hz0⟩
      · rw [h1] at hf; cases hf
    clear hsp
    go_enter Tryz.func38, Tryz.ntmps38
    go_wp2_with (go_at_call 87; refine SP.out.mono ?_; rintro e w2 ⟨rfl, hb2, hz2⟩; have hc0 : w2.cell? ⟨w.heap.size, 0, none⟩ = some (.string ⟨#[]⟩) := (by simp only [World.cell?, hz2]; rfl); have hc1 : w2.cell? ⟨w.heap.size, 1, none⟩ = some (.slice none 0 0) := (by simp only [World.cell?, hz2]; rfl); have hcf : ∀ i, w2.frozen? ⟨w.heap.size, i, none⟩ = false := (fun i => by simp [World.frozen?, hz2]))
    exact bodyPost_ret (got_result2 rfl _ _ _ _ _ _ rfl (set2_heap hz2) rfl (.bool false) rfl) rfl ⟨set2_below hb2 (Nat.le_refl _), .inl ⟨hn, _, _, _, _, rfl⟩⟩
  · obtain ⟨f, hfl⟩ : ∃ f, flatL l = f := ⟨_, rfl⟩
    have hfb : f.length ≤ 100000 := by
      rcases spread_law 0 _ form (Nat.le_refl _) with ⟨g1, _⟩ | ⟨f', _, g1, _, g3, _⟩
      · rw [h1] at g1; cases g1
      · rw [h1] at g1; injection g1 with g1; rw [← hfl, g1]; omega
    have SP : Hid (Calls Tryz.prog 87 #[.string ⟨form.toArray⟩] (w.alloc (.cells #[.string ⟨#[]⟩, .slice none 0 0] 91)) fun e w' => e = .returned (.tuple #[.string ⟨f.toArray⟩, .bool true]) ∧ Below w.heap.size w w' ∧ w'.heap[w.heap.size]? = some (.cells #[.string ⟨#[]⟩, .slice none 0 0] 91)) := hsp.mono fun e w' hh => by
      obtain ⟨hb, hh⟩ := hh
      rcases hh with ⟨h, _⟩ | ⟨f', hf', h⟩
      · rw [h1] at h; cases h
      · rw [h1] at hf'; injection hf' with hf'
        rw [hfl] at hf'
        subst hf'
        exact ⟨h, hb0.trans (hb.mono hb0.size), (hb.block _ (Array.getElem?_eq_some_iff.1 hz0).1).trans hz0⟩
    have HSH : Hid (∀ k (hk : k < l.length), Shp f (offL l k) (offL l (k + 1)) l[k]) := fun k hk => hfl ▸ shp_at hPG (List.getElem?_eq_getElem hk)
    have hoe : offL l l.length = f.length := by rw [offL_end, hfl]
    have HLS : Hid (∀ k (hk : k < l.length), letsL (l.take (k + 1)) = letsL (l.take k) ++ (if l[k].2 = 0 then [] else [l[k].2])) := fun k hk => letsL_succ (List.getElem?_eq_getElem hk)
    have HDUP : Hid (∀ k (hk : k < l.length), l[k].2 ≠ 0 → l[k].2 ∈ letsL (l.take k) → readR s form = none) := fun k hk h0 hm => by
      have := lets_dup (List.getElem?_eq_getElem hk) h0 hm
      unfold readR; rw [h2]; simp only; rw [if_neg this]
    have HLL : Hid (∀ k, (letsL (l.take k)).length ≤ 100000) := fun k => by
      have h3 := lets_len (l.take k)
      have h4 := parts_len _ form (Nat.le_refl _) l h2
      simp only [List.length_take] at h3
      omega
    have HRR : Hid ((letsL l).Nodup → readR s form = endG (readG l s [])) := fun hn => by unfold readR; rw [h2]; simp only; rw [if_pos hn]
    have HGB : Hid (∀ s' G, readG l s [] = some (s', G) → G.length ≤ l.length) := fun s' G h => by have := (readG_bound l s [] s' G h).1; simpa using this
    have hll : l.length ≤ 50000 := by have := parts_len _ form (Nat.le_refl _) l h2; omega
    have HTK : Hid (∀ k (hk : k < l.length), (info (l[k].2.toNat : Int)).isSome = true → ∀ x : Bs, x.length ≤ 10000 → ∀ W', Calls Tryz.prog 89 #[.int .u8 (l[k].2.toNat : Int), .string ⟨x.toArray⟩] W' fun e w' => e = .returned (.int .i64 (takenC l[k].2 x)) ∧ Below W'.heap.size W' w') := fun k hk hi x hx W' => taken_all _ hi x (by omega) W'
    clear hsp h1 h2 hPG hfl hb0 hz0
    go_enter Tryz.func38, Tryz.ntmps38
    go_wp2_with (go_at_call 87; refine SP.out.mono ?_; rintro e w2 ⟨rfl, hb2, hz2⟩; have hc0 : w2.cell? ⟨w.heap.size, 0, none⟩ = some (.string ⟨#[]⟩) := (by simp only [World.cell?, hz2]; rfl); have hc1 : w2.cell? ⟨w.heap.size, 1, none⟩ = some (.slice none 0 0) := (by simp only [World.cell?, hz2]; rfl); have hcf : ∀ i, w2.frozen? ⟨w.heap.size, i, none⟩ = false := (fun i => by simp [World.frozen?, hz2]); have HB2 := Lib.hid hb2; have HZ2 := Lib.hid hz2; clear hb2 hz2)
    clear SP
    go_loop [8, 9] (fun v8 v9 => ∃ k : Nat, k ≤ l.length ∧ v9 = .int .i64 (offL l k) ∧ v8 = .string ⟨(letsL (l.take k)).toArray⟩ ∧ Hid (letsL (l.take k)).Nodup) (fun _ v9 => f.length - (intOf v9).toNat)
    case atStart => exact ⟨0, Nat.zero_le _, rfl, rfl, List.nodup_nil⟩
    case round =>
      obtain ⟨k, hk, rfl, rfl, HND⟩ := hrel
      have hll2 := HLL.out k
      by_cases hlt : k < l.length
      · have hsh := HSH.out k hlt
        have hls := HLS.out k hlt
        have HD := Lib.hid (HDUP.out k hlt)
        have HOK : Hid (k + 1 ≤ l.length) := hlt
        generalize hi2 : offL l (k + 1) = i2 at *
        generalize hi1 : offL l k = i at *
        generalize l[k] = p at *
        obtain ⟨tx, c⟩ := p
        have HLS2 := Lib.hid hls
        clear hls
        generalize hL2 : letsL (l.take (k + 1)) = L2 at *
        generalize hL1 : letsL (l.take k) = L1 at *
        cases hsh with
        | text ch g0 g1 g2 g3 g4 =>
          obtain ⟨hil, hif⟩ := List.getElem?_eq_some_iff.1 g3
          have hlti : decide ((i : Int) < (f.length : Int)) = true := by rw [decide_eq_true_eq]; omega
          have hne : (((ch.toNat : Int)) != 37) = true := by simpa [bne] using u8_ne (a := ch) (k := 37) (by omega) g2
          have hw1 : IntKind.i64.wrap ((i : Int) + 1) = (i : Int) + 1 := IntWalk.i64_in _ (by omega)
          simp only at g0
          have HE : Hid (L2 = L1) := by show _ = _; rw [HLS2.out, if_pos g0, List.append_nil]
          clear g3 HD HLS2
          go_wp2_with fail
          go_round
          case rel => exact ⟨k + 1, HOK.out, by rw [hi2, g4]; go_num, by rw [hL2, HE.out], by show _; rw [hL2, HE.out]; exact HND.out⟩
          case measure => simp [intOf]; omega
        | per g0 g1 g2 g3 g4 =>
          obtain ⟨hil, hif⟩ := List.getElem?_eq_some_iff.1 g2
          obtain ⟨hil2, hif2⟩ := List.getElem?_eq_some_iff.1 g3
          have hlti : decide ((i : Int) < (f.length : Int)) = true := by rw [decide_eq_true_eq]; omega
          have hw1 : IntKind.i64.wrap ((i : Int) + 1) = (i : Int) + 1 := IntWalk.i64_in _ (by omega)
          have hw2 : IntKind.i64.wrap ((i : Int) + 1 + 1) = (i : Int) + 1 + 1 := IntWalk.i64_in _ (by omega)
          simp only at g0
          have HE : Hid (L2 = L1) := by show _ = _; rw [HLS2.out, if_pos g0, List.append_nil]
          clear g2 g3 HD HLS2
          go_wp2_with fail
          go_round
          case rel => exact ⟨k + 1, HOK.out, by rw [hi2, g4]; go_num, by rw [hL2, HE.out], by show _; rw [hL2, HE.out]; exact HND.out⟩
          case measure => simp [intOf]; omega
        | lett g0 g37 gi g2 g3 g4 =>
          simp only at g0 g37 gi g3
          obtain ⟨hil, hif⟩ := List.getElem?_eq_some_iff.1 g2
          obtain ⟨hil2, hif2⟩ := List.getElem?_eq_some_iff.1 g3
          have hlti : decide ((i : Int) < (f.length : Int)) = true := by rw [decide_eq_true_eq]; omega
          have hw1 : IntKind.i64.wrap ((i : Int) + 1) = (i : Int) + 1 := IntWalk.i64_in _ (by omega)
          have hw2 : IntKind.i64.wrap ((i : Int) + 1 + 1) = (i : Int) + 1 + 1 := IntWalk.i64_in _ (by omega)
          have hne : (((c.toNat : Int)) == 37) = false := by simpa using u8_ne (a := c) (k := 37) (by omega) g37
          have HI := Lib.hid (fun W' => Tryz.strings_IndexByte ⟨L1.toArray⟩ (c.toNat : Int) W')
          have hcc : (((c.toNat : Int)).toNat).toUInt8 = c := by
            apply UInt8.toNat_inj.1
            simp
          rw [hcc] at HI
          have e9 : (⟨L1.toArray⟩ : ByteArray).data.toList = L1 := rfl
          rw [e9] at HI
          have hix := ixb c L1
          clear g2 g3 hcc e9
          generalize Lib.indexByte L1 c = ix at *
          rcases hix with ⟨hnm, rfl⟩ | ⟨hm, hx0, hx1⟩
          · have HE : Hid (L2 = L1 ++ [c]) := by show _ = _; rw [HLS2.out, if_neg g0]
            have HN2 : Hid (L1 ++ [c]).Nodup := by
              show (L1 ++ [c]).Nodup
              rw [List.nodup_append]
              exact ⟨HND.out, by simp, fun a ha b hb => by simp at hb; subst hb; rintro rfl; exact hnm ha⟩
            have hsum : ¬ (9223372036854775807 < L1.length + 1) := by omega
            have hdr : List.take 1 (List.drop (i + 1) f) = [c] := by rw [List.drop_eq_getElem_cons hil2, hif2]; rfl
            clear HD HLS2 hnm
            go_wp2_with (go_at_call 88; refine (HI.out _).mono ?_; rintro e w3 ⟨rfl, rfl⟩)
            go_round
            case rel => exact ⟨k + 1, HOK.out, by rw [hi2, g4]; go_num, by rw [hL2, HE.out]; simp only [hdr, ba_append], by show _; rw [hL2, HE.out]; exact HN2.out⟩
            case measure => simp [intOf]; omega
          · have hx : decide (0 ≤ ix) = true := by rw [decide_eq_true_eq]; exact hx0
            have hn : readR s form = none := HD.out g0 hm
            have HN := Lib.hid hn
            clear HD HLS2 hn hm
            go_wp2_with (go_at_call 88; refine (HI.out _).mono ?_; rintro e w3 ⟨rfl, rfl⟩)
            exact bodyPost_ret (got_result2 rfl _ _ _ _ _ _ rfl (set2_heap HZ2.out) rfl (.bool false) rfl) rfl ⟨set2_below HB2.out (Nat.le_refl _), .inl ⟨HN.out, _, _, _, _, rfl⟩⟩
      · obtain rfl : k = l.length := by omega
        rw [hoe]
        have hlti : decide ((f.length : Int) < (f.length : Int)) = false := by rw [decide_eq_false_iff_not]; omega
        have HNDL : Hid (letsL l).Nodup := by have := HND.out; rw [List.take_length] at this; exact this
        have HREQ := Lib.hid (HRR.out HNDL.out)
        clear HRR HDUP HND HLS HNDL
        have HS0 := Lib.hid (RSt.new (w := w) HB2.out HZ2.out)
        have hbl0 := (HB2.out).size
        go_wp2_with fail
        generalize hbb : w2.heap.size = b at *
        go_loopw [0, 11, 12] (fun v0 v11 v12 wr => ∃ (k : Nat) (s' : Bs) (G : GotL) (ao : Option Addr) (cap : Nat), k ≤ l.length ∧ v11 = .int .i64 (offL l k) ∧ v0 = .string ⟨s'.toArray⟩ ∧ s'.length ≤ s.length ∧ Hid (readG l s [] = readG (l.drop k) s' G) ∧ G.length ≤ k ∧ Hid (RSt w wr (G.map (·.1)) G ao cap b)) (fun _ v11 _ _ => f.length - (intOf v11).toNat)
        case atStart => exact ⟨0, s, [], none, 0, Nat.zero_le _, rfl, rfl, Nat.le_refl _, rfl, Nat.le_refl _, HS0⟩
        case round =>
          obtain ⟨k, s', G, ao, cap, hk, rfl, rfl, hs', HG, hGl, HS⟩ := hrel
          obtain ⟨d0, d1, dz, e0, e1, ez⟩ := HS.out.facts
          by_cases hlt : k < l.length
          · have hsh := HSH.out k hlt
            have hg2 : readG l s [] = readG (l[k] :: l.drop (k + 1)) s' G := by rw [← List.drop_eq_getElem_cons hlt]; exact HG.out
            have HTK2 := Lib.hid (HTK.out k hlt)
            have HOK : Hid (k + 1 ≤ l.length) := hlt
            generalize hi2 : offL l (k + 1) = i2 at *
            generalize hi1 : offL l k = i at *
            generalize l[k] = p at *
            obtain ⟨tx, c⟩ := p
            cases hsh with
            | text ch g0 g1 g2 g3 g4 =>
              simp only at g0 g1
              subst g1
              have hne : (((ch.toNat : Int)) == 37) = false := by simpa using u8_ne (a := ch) (k := 37) (by omega) g2
              have hnn : (((ch.toNat : Int)) != 37) = true := by rw [bne, hne]; rfl
              obtain ⟨hil, hif⟩ := List.getElem?_eq_some_iff.1 g3
              have hlti : decide ((i : Int) < (f.length : Int)) = true := by rw [decide_eq_true_eq]; omega
              have hw1 : IntKind.i64.wrap ((i : Int) + 1) = (i : Int) + 1 := IntWalk.i64_in _ (by omega)
              have hw2 : IntKind.i64.wrap ((i : Int) + 1 + 1) = (i : Int) + 1 + 1 := IntWalk.i64_in _ (by have := hil; omega)
              rcases hasP_one s' ch with ⟨hp, r, rfl, ht⟩ | ⟨hp, hbad⟩
              · have HG3 : Hid (readG l s [] = readG (l.drop (k + 1)) r G) := by
                  show _ = _
                  rw [hg2, readG, if_pos g0, if_pos hp, ht]
                have hrl : r.length ≤ s.length := by simp at hs'; omega
                clear hg2 hp ht g3 g2 HTK2
                go_wp2_with fail
                go_quiet (fail)
                go_wp2_with fail
                go_roundw
                case rel => exact ⟨k + 1, r, G, ao, cap, HOK.out, by rw [hi2, g4]; go_num, rfl, hrl, HG3, by omega, Lib.hid (HS.out.next (below_drewN (Below.refl _ _) _))⟩
                case measure => simp [intOf]; omega
              · have hn : readR s form = none := by
                  rw [HREQ.out, hg2, readG, if_pos g0, if_neg (by rw [hp]; decide)]
                  rfl
                have HN := Lib.hid hn
                clear hg2 hp hn g3 g2 HTK2
                rcases hbad with rfl | ⟨a, r, rfl, hna⟩
                · go_wp2_with fail
                  go_quiet (fail)
                  go_wp2_with fail
                  have HS9 := Lib.hid (HS.out.next (below_drewN (Below.refl _ _) nq))
                  exact bodyPost_ret (got_result2 rfl _ _ _ _ _ _ rfl (set2_heap HS9.out.res) rfl (.bool false) rfl) rfl ⟨set2_below HS9.out.below (Nat.le_refl _), .inl ⟨HN.out, _, _, _, _, rfl⟩⟩
                · have hna2 : (((a.toNat : Int)) != (ch.toNat : Int)) = true := by
                    rw [bne_iff_ne]
                    intro e
                    exact hna (UInt8.toNat_inj.1 (by first | omega | (have e9 : (37 : UInt8).toNat = 37 := rfl; omega)))
                  clear hna
                  go_wp2_with fail
                  go_quiet (fail)
                  go_wp2_with fail
                  have HS9 := Lib.hid (HS.out.next (below_drewN (Below.refl _ _) nq))
                  exact bodyPost_ret (got_result2 rfl _ _ _ _ _ _ rfl (set2_heap HS9.out.res) rfl (.bool false) rfl) rfl ⟨set2_below HS9.out.below (Nat.le_refl _), .inl ⟨HN.out, _, _, _, _, rfl⟩⟩
            | per g0 g1 g2 g3 g4 =>
              simp only at g0 g1
              subst g1
              obtain ⟨hil2, hif2⟩ := List.getElem?_eq_some_iff.1 g3
              obtain ⟨ch, hch⟩ : ∃ ch : UInt8, ch = 37 := ⟨37, rfl⟩
              obtain ⟨hil, hif⟩ := List.getElem?_eq_some_iff.1 g2
              have hlti : decide ((i : Int) < (f.length : Int)) = true := by rw [decide_eq_true_eq]; omega
              have hw1 : IntKind.i64.wrap ((i : Int) + 1) = (i : Int) + 1 := IntWalk.i64_in _ (by omega)
              have hw2 : IntKind.i64.wrap ((i : Int) + 1 + 1) = (i : Int) + 1 + 1 := IntWalk.i64_in _ (by have := hil; omega)
              rcases hasP_one s' (37 : UInt8) with ⟨hp, r, rfl, ht⟩ | ⟨hp, hbad⟩
              · have HG3 : Hid (readG l s [] = readG (l.drop (k + 1)) r G) := by
                  show _ = _
                  rw [hg2, readG, if_pos g0, if_pos hp, ht]
                have hrl : r.length ≤ s.length := by simp at hs'; omega
                clear hg2 hp ht g3 g2 HTK2
                go_wp2_with fail
                go_quiet (fail)
                go_wp2_with fail
                go_roundw
                case rel => exact ⟨k + 1, r, G, ao, cap, HOK.out, by rw [hi2, g4]; go_num, rfl, hrl, HG3, by omega, Lib.hid (HS.out.next (below_drewN (Below.refl _ _) _))⟩
                case measure => simp [intOf]; omega
              · have hn : readR s form = none := by
                  rw [HREQ.out, hg2, readG, if_pos g0, if_neg (by rw [hp]; decide)]
                  rfl
                have HN := Lib.hid hn
                clear hg2 hp hn g3 g2 HTK2
                rcases hbad with rfl | ⟨a, r, rfl, hna⟩
                · go_wp2_with fail
                  go_quiet (fail)
                  go_wp2_with fail
                  have HS9 := Lib.hid (HS.out.next (below_drewN (Below.refl _ _) nq))
                  exact bodyPost_ret (got_result2 rfl _ _ _ _ _ _ rfl (set2_heap HS9.out.res) rfl (.bool false) rfl) rfl ⟨set2_below HS9.out.below (Nat.le_refl _), .inl ⟨HN.out, _, _, _, _, rfl⟩⟩
                · have hna2 : (((a.toNat : Int)) != (37 : Int)) = true := by
                    rw [bne_iff_ne]
                    intro e
                    exact hna (UInt8.toNat_inj.1 (by first | omega | (have e9 : (37 : UInt8).toNat = 37 := rfl; omega)))
                  clear hna
                  go_wp2_with fail
                  go_quiet (fail)
                  go_wp2_with fail
                  have HS9 := Lib.hid (HS.out.next (below_drewN (Below.refl _ _) nq))
                  exact bodyPost_ret (got_result2 rfl _ _ _ _ _ _ rfl (set2_heap HS9.out.res) rfl (.bool false) rfl) rfl ⟨set2_below HS9.out.below (Nat.le_refl _), .inl ⟨HN.out, _, _, _, _, rfl⟩⟩
            | lett g0 g37 gi g2 g3 g4 =>
              simp only at g0 g37 gi g3
              obtain ⟨hil, hif⟩ := List.getElem?_eq_some_iff.1 g2
              obtain ⟨hil2, hif2⟩ := List.getElem?_eq_some_iff.1 g3
              have hlti : decide ((i : Int) < (f.length : Int)) = true := by rw [decide_eq_true_eq]; omega
              have hw1 : IntKind.i64.wrap ((i : Int) + 1) = (i : Int) + 1 := IntWalk.i64_in _ (by omega)
              have hw2 : IntKind.i64.wrap ((i : Int) + 1 + 1) = (i : Int) + 1 + 1 := IntWalk.i64_in _ (by omega)
              have hne : (((c.toNat : Int)) == 37) = false := by simpa using u8_ne (a := c) (k := 37) (by omega) g37
              have hdr : List.take 1 (List.drop (i + 1) f) = [c] := by rw [List.drop_eq_getElem_cons hil2, hif2]; rfl
              have TK := Lib.hid (HTK2.out gi s' (by omega))
              rcases taken_law c gi s' with ⟨t1, t2⟩ | ⟨t1, t2, t3⟩
              · have hn : readR s form = none := by
                  rw [HREQ.out, hg2, readG, if_neg g0, if_pos (by show takenC c s' < 0; rw [t1]; decide)]
                  rfl
                have HN := Lib.hid hn
                simp only [t1] at TK
                clear hg2 hn t1 t2 g2 g3 HTK2
                go_wp2_with (go_at_call 89; refine (TK.out _).mono ?_; rintro e w3 ⟨rfl, hb3⟩; have HS9 := Lib.hid (HS.out.next hb3); clear hb3; obtain ⟨d0, d1, dz, e0, e1, ez⟩ := HS9.out.facts)
                exact bodyPost_ret (got_result2 rfl _ _ _ _ _ _ rfl (set2_heap HS9.out.res) rfl (.bool false) rfl) rfl ⟨set2_below HS9.out.below (Nat.le_refl _), .inl ⟨HN.out, _, _, _, _, rfl⟩⟩
              · have hmle := readC_le c s'
                simp only [t2] at TK
                have HG3 : Hid (readG l s [] = readG (l.drop (k + 1)) (s'.drop (readC c s').2) (G ++ [(c, s'.take (readC c s').2)])) := by
                  show _ = _
                  rw [hg2, readG, if_neg g0]
                  show (if takenC c s' < 0 then none else _) = _
                  rw [t2, if_neg (by omega), Int.toNat_natCast]
                clear hg2 t2 t3 g2 g3 HTK2
                generalize (readC c s').2 = m at *
                have hmi : (m : Int) ≤ (s'.length : Int) := by omega
                have hm0 : decide ((m : Int) < 0) = false := by rw [decide_eq_false_iff_not]; omega
                have hGm : (G.map (·.1)).length ≤ 100000 := by simp; omega
                have hGc : G.length ≤ 100000 := by omega
                have hmap : (G ++ [(c, s'.take m)]).map (·.1) = G.map (·.1) ++ [c] := by simp
                have hsum : ¬ (9223372036854775807 < (G.map (·.1)).length + 1) := by omega
                have hsum2 : ¬ (9223372036854775807 < G.length + 1) := by omega
                go_upto_region 28 with (go_at_call 89; refine (TK.out _).mono ?_; rintro e w3 ⟨rfl, hb3⟩; have HS9 := Lib.hid (HS.out.next hb3); clear hb3; obtain ⟨d0, d1, dz, e0, e1, ez⟩ := HS9.out.facts)
                go_cut [] from 52 to 117 (fun wx => Hid (RSt w wx (G.map (·.1) ++ [c]) G ao cap b))
                case first =>
                  go_region
                  all_goals (go_wp2_with fail; go_meet; first | exact Lib.hid (HS9.out.letter _) | exact Lib.hid (HS9.out.drew.letter _))
                case rest =>
                  have HSc := hcut
                  obtain ⟨d0, d1, dz, e0, e1, ez⟩ := HSc.out.facts
                  have hszb : b + 1 ≤ wc.heap.size := by have := (Array.getElem?_eq_some_iff.1 HSc.out.box).1; omega
                  have dA : ∀ o, (wc.alloc o).cell? ⟨b, 1, none⟩ = some (.slice ao G.length cap) := fun o => (HSc.out.next (below_alloc1 wc o)).facts.2.1
                  go_upto_region 29 with fail
                  go_region_law (refine step_append_one rfl (.tmp 108) (.tmp 112) 28 rfl (b + 1) 9 (.string ByteArray.empty) 16 Tryz.underlying28 Tryz.infoStr rfl (.slice ao G.length cap) G.length _ (by simp [Act.eval, Act.put]) wc.drew HSc.out.drew.row (.string ⟨(s'.take m).toArray⟩) rfl (by simp [Act.eval, Act.put]) rfl (by unfold maxLen; omega) (by omega) (by show b + 1 ≤ wc.heap.size; exact hszb) ?_; intro g c6 w6 hg6 hr6 hk6 hl6; obtain ⟨f1, fz⟩ := HSc.out.drew.mid hk6; have HP6 := Lib.hid (HSc.out.drew.push c (s'.take m) hr6 hk6 hg6); clear hr6 hk6 hg6 hl6)
                  all_goals
                    go_wp2_with fail
                    exact ⟨⟨k + 1, s'.drop m, _, some ⟨g, 0, none⟩, c6, HOK.out, by rw [hi2, g4]; go_num, rfl, by simp; omega, HG3, by simp; omega, by rw [hmap]; simpa using HP6⟩, by simp [intOf]; omega⟩
          · obtain rfl : k = l.length := by omega
            rw [hoe]
            have hlti : decide ((f.length : Int) < (f.length : Int)) = false := by rw [decide_eq_false_iff_not]; omega
            have hgz : readG l s [] = some (s', G) := by have := HG.out; rw [List.drop_length] at this; exact this
            have hre := HREQ.out
            rw [hgz] at hre
            unfold endG at hre
            simp only at hre
            cases s' with
            | nil =>
              rw [if_pos rfl] at hre
              have HRE := Lib.hid hre
              clear hre hgz HG
              go_wp2_with fail
              exact bodyPost_ret (got_result2 rfl _ _ _ _ _ _ rfl (set2_heap HS.out.res) rfl (.bool true) rfl) rfl ⟨set2_below HS.out.below (Nat.le_refl _), .inr ⟨G, ao, cap, HRE.out, rfl, HS.out.fin _ _⟩⟩
            | cons a r =>
              rw [if_neg (by simp)] at hre
              have HRE := Lib.hid hre
              clear hre hgz HG
              go_wp2_with fail
              exact bodyPost_ret (got_result2 rfl _ _ _ _ _ _ rfl (set2_heap HS.out.res) rfl (.bool false) rfl) rfl ⟨set2_below HS.out.below (Nat.le_refl _), .inl ⟨HRE.out, _, _, _, _, rfl⟩⟩
end Go.Proofs.YtkahakhhdiffcaaGreatDoor

/- Keys, Values: what they delete. Printed by mkTell.py. The reference's every, Keys, Values, Size; Same of like lists; Size. -/
import Derived.Test.YtpaffocniniakaaGreatPathR1
import Derived.Test.YtpaffocniniakaaGreatGlobB
import Derived.Lib.SliceRun
import Derived.Lib.LazyBuf
import Derived.Laws.IdiomCopy
namespace Go.Proofs.YtpaffocniniakaaGreat
set_option linter.unusedVariables false
set_option linter.unusedSimpArgs false
open Go.RowKit

theorem zero_str (w : World) : (zeroValue 9).run Tryz.prog w = .ok (.string ⟨#[]⟩) w := by kernel_rfl
theorem _root_.Go.RowKit.Below.mono' {B : Nat} {w w' : World} (h : Below w.heap.size w w') (hB : B ≤ w.heap.size) : Below B w w' := ⟨h.os, h.tape, h.output, h.size, fun k hk => h.block k (by omega)⟩
theorem glob_m (p s : Bs) (fold : Bool) (hp : p.length ≤ 1000000) (hs : s.length ≤ 1000000) (w : World) :
    Calls Tryz.prog 33 #[.string ⟨p.toArray⟩, .string ⟨s.toArray⟩, .bool fold] w fun e w' => e = .returned (.bool (matchP fold p s)) ∧ Below w.heap.size w w' := by
  rw [← globC_match]; exact Glob_any p s fold hp hs w
theorem rglob_m (p s : Bs) (fold : Bool) (hp : p.length ≤ 1000000) (hs : s.length ≤ 1000000) (w : World) :
    Calls Tryz.prog 39 #[.string ⟨p.toArray⟩, .string ⟨s.toArray⟩, .bool fold] w fun e w' => e = .returned (.bool (matchP fold p s)) ∧ Below w.heap.size w w' := by
  rw [← gl_match]; exact rGlob_any p s fold hp hs w
/-- The first that is not kept; -1 if all are. -/
def FirstNo (m : Bs → Bool) (ss : List Bs) (e : Int) : Prop := (e = -1 ∧ ∀ x ∈ ss, m x = true) ∨ ∃ (i : Nat) (h : i < ss.length), i ≤ 1000000 ∧ e = (i : Int) ∧ m ss[i] = false ∧ ∀ x ∈ ss.take i, m x = true
set_option maxHeartbeats 400000 in
theorem pred_keys {xb : Nat} {pat : Bs} (k : Bs) (W : World) (hx : W.cell? ⟨xb, 0, none⟩ = some (.string ⟨pat.toArray⟩)) (hp : pat.length ≤ 1000000) (hk : k.length ≤ 1000000) :
    Calls Tryz.prog 32 #[.string ⟨k.toArray⟩, .pointer (some ⟨xb, 0, none⟩)] W fun e w' => e = .returned (.bool (!matchP false pat k)) ∧ Below W.heap.size W w' := by
  have GL := Lib.hid (glob_m pat k false hp hk W)
  generalize matchP false pat k = q at *
  go_enter Tryz.func32, Tryz.ntmps32
  go_wp2_with (go_at_call 33; refine GL.out.mono ?_; rintro e w1 ⟨rfl, hB1⟩; have H1 := Lib.hid hB1; clear hB1)
  go_ret
  exact ⟨by first | rfl | simp, H1.out⟩
set_option maxRecDepth 100000 in
set_option maxHeartbeats 800000 in
theorem idx_keys {xb : Nat} {pat : Bs} {ss : List Bs} {v : Value} (w : World) (hx : w.cell? ⟨xb, 0, none⟩ = some (.string ⟨pat.toArray⟩)) (hxl : xb < w.heap.size) (hp : pat.length ≤ 1000000) (hkl : ∀ k ∈ ss, k.length ≤ 1000000) (hn : ss.length ≤ 1000000) (ht : TxtRow w v ss) :
    Calls Tryz.prog 55 #[v, .func (.func 32) #[] #[.pointer (some ⟨xb, 0, none⟩)]] w fun e w' => ∃ i : Int, e = .returned (.int .i64 i) ∧ FirstNo (matchP false pat) ss i ∧ Below w.heap.size w w' := by
  obtain ⟨o, c, rfl⟩ := ht.len
  have PR : Hid (∀ W k, Below w.heap.size w W → k ∈ ss → Calls Tryz.prog 32 #[.string ⟨k.toArray⟩, .pointer (some ⟨xb, 0, none⟩)] W fun e w' => e = .returned (.bool (!matchP false pat k)) ∧ Below W.heap.size W w') := fun W k h hk => pred_keys k W ((h.cell (p := ⟨xb, 0, none⟩) hxl).trans hx) hp (hkl k hk)
  have HT := Lib.hid ht
  obtain ⟨n, hnn⟩ : ∃ n, ss.length = n := ⟨_, rfl⟩
  have HN := Lib.hid hnn
  rw [hnn] at HT hn ⊢
  clear ht hkl hx hxl hnn
  go_enter Tryz.func55, Tryz.ntmps55
  go_wp2_with fail
  go_loopg [5, 8] n (fun g _ i wr => ∃ j : Nat, j + g = n ∧ i = .int .i64 (j : Int) ∧ Below w.heap.size w wr ∧ Hid (∀ x ∈ ss.take j, matchP false pat x = true))
  case atStart => exact ⟨0, by omega, rfl, Below.refl _ _, fun x hx => by simp at hx⟩
  case round =>
    obtain ⟨j, hjg, rfl, hb, HI⟩ := hrel
    have hnn := HN.out
    by_cases hlt : j < n
    · obtain ⟨z1, hc1, hc2, h3⟩ := (HT.out.below hb).at_
      obtain ⟨b, off, rfl, hl, hc⟩ := h3 j (by omega)
      have PR2 := Lib.hid (PR.out wr _ hb (List.getElem_mem (by omega : j < ss.length)))
      have HL : Hid (∀ b, matchP false pat (ss[j]'(by omega)) = b → if b then ∀ x ∈ ss.take (j + 1), matchP false pat x = true else FirstNo (matchP false pat) ss (j : Int)) := fun b hb' => by
        cases b
        · exact .inr ⟨j, by omega, by omega, rfl, hb', HI.out⟩
        · intro x hx
          rw [List.take_succ_eq_append_getElem (by omega), List.mem_append, List.mem_singleton] at hx
          rcases hx with hx | rfl
          · exact HI.out x hx
          · exact hb'
      generalize ss[j]'(by omega) = k at *
      have hcx : wr.cell? ⟨b, off + j, none⟩ = some (.string ⟨k.toArray⟩) := hc
      have i1 : j < n := hlt
      have t0 : decide ((j : Int) < (n : Int)) = true := by rw [decide_eq_true_eq]; omega
      have HB := Lib.hid hb
      have HJ := Lib.hid hjg
      cases hm : matchP false pat k with
      | true =>
        rw [hm] at PR2
        have HL2 := Lib.hid (HL.out true hm)
        clear hm HL hnn hlt h3 hc hb hjg z1 hc1 hc2
        go_wp2_with (go_at_call 32; refine PR2.out.mono ?_; rintro e w1 ⟨rfl, hB1⟩; have H1 := Lib.hid hB1; clear hB1)
        go_roundg (gk - 1)
        case measure => have := HJ.out; omega
        case rel => exact ⟨j + 1, by have := HJ.out; omega, by go_num, HB.out.trans (H1.out.mono HB.out.size), HL2.out⟩
      | false =>
        rw [hm] at PR2
        have HL2 := Lib.hid (HL.out false hm)
        clear hm HL hnn hlt h3 hc hb hjg z1 hc1 hc2
        go_wp2_with (go_at_call 32; refine PR2.out.mono ?_; rintro e w1 ⟨rfl, hB1⟩; have H1 := Lib.hid hB1; clear hB1)
        go_ret
        exact ⟨_, rfl, HL2.out, HB.out.trans (H1.out.mono HB.out.size)⟩
    · obtain rfl : j = n := by omega
      have t0 : decide ((j : Int) < (j : Int)) = false := by rw [decide_eq_false_iff_not]; omega
      have HL2 : Hid (FirstNo (matchP false pat) ss (-1)) := .inl ⟨rfl, fun x hx => HI.out x (by rw [List.take_of_length_le (by omega)]; exact hx)⟩
      clear hnn hlt hjg
      go_wp2_with fail
      go_ret
      exact ⟨_, rfl, HL2.out, hb⟩
set_option maxRecDepth 100000 in
set_option maxHeartbeats 1600000 in
theorem del_keys {B xb : Nat} {pat : Bs} {ss : List Bs} {v : Value} (w : World) (hx : w.cell? ⟨xb, 0, none⟩ = some (.string ⟨pat.toArray⟩)) (hxB : xb < B) (hB : B ≤ w.heap.size) (hp : pat.length ≤ 1000000) (hkl : ∀ k ∈ ss, k.length ≤ 1000000) (hn : ss.length ≤ 1000000) (ho : w.ownsRow B 9 1 v ss.length (ss.map sv)) :
    Calls Tryz.prog 31 #[v, .func (.func 32) #[] #[.pointer (some ⟨xb, 0, none⟩)]] w fun e w' => ∃ v', e = .returned v' ∧ TxtRow w' v' (ss.filter (matchP false pat)) ∧ Below B w w' := by
  have ht := TxtRow.of_owns ho
  have IX := Lib.hid (idx_keys w hx (by omega) hp hkl hn ht)
  have PR : Hid (∀ W k, Below B w W → k ∈ ss → Calls Tryz.prog 32 #[.string ⟨k.toArray⟩, .pointer (some ⟨xb, 0, none⟩)] W fun e w' => e = .returned (.bool (!matchP false pat k)) ∧ Below W.heap.size W w') := fun W k h hk => pred_keys k W ((h.cell (p := ⟨xb, 0, none⟩) hxB).trans hx) hp (hkl k hk)
  obtain ⟨o, c, rfl⟩ := ht.len
  obtain ⟨_, hnc, hcm, _⟩ := ht.at_
  obtain ⟨n, hnn⟩ : ∃ n, ss.length = n := ⟨_, rfl⟩
  rw [hnn] at IX ho hn hnc ⊢
  have HO := Lib.hid ho
  have HN := Lib.hid hnn
  unfold maxLen at hcm
  have HB0 := Lib.hid hB
  have hne : ∀ k : Nat, ((k : Int) == -1) = false := fun k => by rw [beq_eq_false_iff_ne]; omega
  clear ht ho hkl hx hnn hB
  go_enter Tryz.func31, Tryz.ntmps31
  go_wp2_with (go_at_call 55; refine IX.out.mono ?_; rintro e w1 ⟨i, rfl, hf, hB1⟩; have H1 := Lib.hid hB1; clear hB1; rcases hf with ⟨rfl, hall⟩ | ⟨k0, hk0, hk9, rfl, hm, hall⟩)
  · go_ret
    have hfl : ss.filter (matchP false pat) = ss := List.filter_eq_self.2 hall
    refine ⟨_, rfl, ?_, H1.out.mono' HB0.out⟩
    rw [hfl]
    have := TxtRow.of_owns (by rw [HN.out]; exact HO.out)
    exact this.below H1.out
  · obtain ⟨gb, hg⟩ : ∃ gb, o = some ⟨gb, 0, none⟩ := by
      have := HN.out
      rcases HO.out.2 with ⟨_, h0⟩ | ⟨g, _, _, he, _⟩
      · omega
      · cases he; exact ⟨g, rfl⟩
    subst hg
    have hgB := (ownsRow_type HO.out gb rfl).1
    have own1 := ownsRow_kp HO.out (kp_of_below H1.out) (by simp)
    have hst : Hid (ss.length = n ∧ w1.ownsRow B 9 1 (.slice (some ⟨gb, 0, none⟩) n c) n (ss.map sv) ∧ ss.take k0 = (ss.take (k0 + 1)).filter (matchP false pat) ∧ ss.drop (k0 + 1) = ss.drop (k0 + 1)) := by
      refine ⟨HN.out, own1, ?_, rfl⟩
      rw [List.take_succ_eq_append_getElem hk0, List.filter_append, List.filter_eq_self.2 hall]
      simp [hm]
    have hkn : k0 + 1 ≤ n := by have := HN.out; omega
    have hBw1 := Lib.hid (H1.out.mono' HB0.out)
    have hw1 := Lib.hid H1.out.size
    clear hall hm hk0 own1
    go_loopg [5, 6, 7] (n - (k0 + 1)) (fun g s5 s6 _ wr => ∃ (i j : Nat) (row : List Bs), j + g = n ∧ i < j ∧ s5 = .int .i64 (i : Int) ∧ s6 = .int .i64 (j : Int) ∧ Below B w wr ∧ Hid (row.length = n ∧ wr.ownsRow B 9 1 (.slice (some ⟨gb, 0, none⟩) n c) n (row.map sv) ∧ row.take i = (ss.take j).filter (matchP false pat) ∧ row.drop j = ss.drop j))
    case atStart => exact ⟨k0, k0 + 1, ss, by omega, by omega, rfl, by go_num, hBw1.out, hst.out⟩
    case round =>
      obtain ⟨i, j, row, hjg, hij, rfl, rfl, hb, HR⟩ := hrel
      obtain ⟨r1, r2, r3, r4⟩ := HR.out
      have hnn := HN.out
      by_cases hlt : j < n
      · have hx1 : row[j]'(by omega) = ss[j]'(by omega) := by
          have h1 := List.drop_eq_getElem_cons (l := row) (i := j) (by omega)
          have h2 := List.drop_eq_getElem_cons (l := ss) (i := j) (by omega)
          rw [r4, h2] at h1
          exact (List.cons.inj h1).1.symm
        have r5 : row.drop (j + 1) = ss.drop (j + 1) := by
          have h1 := congrArg (List.drop 1) r4
          simpa [List.drop_drop] using h1
        have hc := r2.cellAt j (by omega)
        rw [List.getElem?_map, List.getElem?_eq_getElem (by omega), hx1] at hc
        have PR2 := Lib.hid (PR.out wr _ hb (List.getElem_mem (by omega : j < ss.length)))
        have hft : ∀ b, matchP false pat (ss[j]'(by omega)) = b → (ss.take (j + 1)).filter (matchP false pat) = (ss.take j).filter (matchP false pat) ++ if b then [ss[j]'(by omega)] else [] := fun b hb' => by
          rw [List.take_succ_eq_append_getElem (by omega), List.filter_append]
          cases b <;> simp [hb']
        generalize ss[j]'(by omega) = k at *
        have hcx : wr.cell? ⟨gb, j, none⟩ = some (.string ⟨k.toArray⟩) := by simpa using hc
        have t0 : decide ((j : Int) < (n : Int)) = true := by rw [decide_eq_true_eq]; omega
        have i1 : j < n := hlt
        have i2 : i < n := by omega
        have HB := Lib.hid hb
        have HJ := Lib.hid (And.intro hjg hij)
        cases hm : matchP false pat k with
        | true =>
          rw [hm] at PR2
          have hf := hft true hm
          simp only [if_true] at hf
          have SET : Hid (∀ W, Below wr.heap.size wr W → W.frozen? ⟨gb, i, none⟩ = false ∧ (∃ u, W.cell? ⟨gb, i, none⟩ = some u) ∧ (row.set i k).length = n ∧ (W.setCell ⟨gb, i, none⟩ (.string ⟨k.toArray⟩)).ownsRow B 9 1 (.slice (some ⟨gb, 0, none⟩) n c) n ((row.set i k).map sv) ∧ (row.set i k).take (i + 1) = (ss.take (j + 1)).filter (matchP false pat) ∧ (row.set i k).drop (j + 1) = ss.drop (j + 1)) := fun W hW => by
            obtain ⟨q1, q2, q3⟩ := row_set (i := i) (.string ⟨k.toArray⟩) (ownsRow_kp r2 (kp_of_below hW) (by simp)) i2
            refine ⟨q1, q2, by rw [List.length_set]; exact r1, by rw [List.map_set]; exact q3, ?_, ?_⟩
            · rw [hf, ← r3, List.take_succ_eq_append_getElem (by rw [List.length_set]; omega), List.take_set_of_le (Nat.le_refl _)]
              simp
            · rw [List.drop_set_of_lt (by omega)]
              exact r5
          clear hm hft hf hnn hlt hc hb hjg hij r1 r2 r3 r4 r5 hx1 HR
          go_wp2_with (go_at_call 32; refine PR2.out.mono ?_; rintro e w2 ⟨rfl, hB2⟩; obtain ⟨f1, ⟨u, c1⟩, hS⟩ := SET.out w2 hB2; have H2 := Lib.hid (And.intro hB2 hS); clear hB2 hS)
          go_roundg (gk - 1)
          case measure => have := HJ.out; omega
          case rel => exact ⟨i + 1, j + 1, row.set i k, by have := HJ.out; omega, by have := HJ.out; omega, by go_num, by go_num, (HB.out.trans (H2.out.1.mono (Nat.le_trans HB0.out HB.out.size))).setCell hgB _, H2.out.2⟩
        | false =>
          rw [hm] at PR2
          have hf := hft false hm
          simp only [Bool.false_eq_true, if_false, List.append_nil] at hf
          have KE : Hid (∀ W, Below wr.heap.size wr W → row.length = n ∧ W.ownsRow B 9 1 (.slice (some ⟨gb, 0, none⟩) n c) n (row.map sv) ∧ row.take i = (ss.take (j + 1)).filter (matchP false pat) ∧ row.drop (j + 1) = ss.drop (j + 1)) := fun W hW => ⟨r1, ownsRow_kp r2 (kp_of_below hW) (by simp), by rw [hf]; exact r3, r5⟩
          clear hm hft hf hnn hlt hc hb hjg hij r1 r2 r3 r4 r5 hx1 HR
          go_wp2_with (go_at_call 32; refine PR2.out.mono ?_; rintro e w2 ⟨rfl, hB2⟩; have H2 := Lib.hid hB2; clear hB2)
          go_roundg (gk - 1)
          case measure => have := HJ.out; omega
          case rel => exact ⟨i, j + 1, row, by have := HJ.out; omega, by have := HJ.out; omega, rfl, by go_num, HB.out.trans (H2.out.mono (Nat.le_trans HB0.out HB.out.size)), KE.out _ H2.out⟩
      · obtain rfl : j = n := by omega
        have t0 : decide ((j : Int) < (j : Int)) = false := by rw [decide_eq_false_iff_not]; omega
        have hcl : ∀ ty, (Builtin.clear_ #[30] ty #[.slice (some ⟨gb, i, none⟩) (j - i) (c - i)]).run Tryz.prog wr = .ok (.tuple #[]) (wr.setCells gb i (List.replicate (j - i) (.string ⟨#[]⟩))) :=
          fun ty => Lib.run_clear_slice wr _ _ ty _ Tryz.underlying30 (fun w => zero_str w) rfl rfl gb i _ _ (by omega) (fun q hq => by
            have h := r2.cellAt (i + q) (by omega)
            rw [List.getElem?_map, List.getElem?_eq_getElem (by omega)] at h
            rw [h]; rfl) (fun q hq => r2.frozenAt (i + q))
        have hlen : ((ss.take j).filter (matchP false pat)).length = i := by rw [← r3, List.length_take]; omega
        have hfin : Hid (TxtRow (wr.setCells gb i (List.replicate (j - i) (.string ⟨#[]⟩))) (.slice (some ⟨gb, 0, none⟩) i c) (ss.filter (matchP false pat)) ∧ Below B w (wr.setCells gb i (List.replicate (j - i) (.string ⟨#[]⟩)))) := by
          rw [← hnn, List.take_length] at r3
          refine ⟨⟨_, c, by rw [← r3, List.length_take, show min i row.length = i by omega], by rw [← r3, List.length_take]; omega, by unfold maxLen; omega, fun q hq => ?_⟩, below_setCells hgB _ _ _ hb⟩
          have hql : q < i := by rw [← r3, List.length_take] at hq; omega
          have hsz := (below_setCells (B := B) (b := gb) (a := wr) hgB (List.replicate (j - i) (.string ⟨#[]⟩)) i wr (Below.refl _ _)).size
          refine ⟨gb, 0, rfl, Nat.lt_of_lt_of_le (r2.lt gb rfl).2 hsz, ?_⟩
          rw [World.cell?_setCells_out gb _ i wr ⟨gb, 0 + q, none⟩ (fun _ _ => .inl (by simpa using hql))]
          have h := r2.cellAt q (by omega)
          rw [List.getElem?_map, List.getElem?_eq_getElem (by omega)] at h
          have e : (ss.filter (matchP false pat))[q]'hq = row[q]'(by omega) := by
            simp only [← r3, List.getElem_take]
          rw [e]
          simpa using h
        have c4 : ¬ c = i := by omega
        have c5 : (i : Int) ≤ (j : Int) := by omega
        have c6 : (j : Int) ≤ (c : Int) := by omega
        have c7 : (i : Int) ≤ (c : Int) := by omega
        clear hjg hij hlt hnn r1 r2 r3 r4 HR hlen
        go_wp2_with fail
        go_ret
        exact ⟨_, rfl, hfin.out.1, hfin.out.2⟩
set_option maxHeartbeats 400000 in
theorem pred_values {xb : Nat} {pat : Bs} (k : Bs) (W : World) (hx : W.cell? ⟨xb, 0, none⟩ = some (.string ⟨pat.toArray⟩)) (hp : pat.length ≤ 1000000) (hk : k.length ≤ 1000000) :
    Calls Tryz.prog 35 #[.string ⟨k.toArray⟩, .pointer (some ⟨xb, 0, none⟩)] W fun e w' => e = .returned (.bool (!matchP false pat k)) ∧ Below W.heap.size W w' := by
  have GL := Lib.hid (glob_m pat k false hp hk W)
  generalize matchP false pat k = q at *
  go_enter Tryz.func35, Tryz.ntmps35
  go_wp2_with (go_at_call 33; refine GL.out.mono ?_; rintro e w1 ⟨rfl, hB1⟩; have H1 := Lib.hid hB1; clear hB1)
  go_ret
  exact ⟨by first | rfl | simp, H1.out⟩
set_option maxRecDepth 100000 in
set_option maxHeartbeats 800000 in
theorem idx_values {xb : Nat} {pat : Bs} {ss : List Bs} {v : Value} (w : World) (hx : w.cell? ⟨xb, 0, none⟩ = some (.string ⟨pat.toArray⟩)) (hxl : xb < w.heap.size) (hp : pat.length ≤ 1000000) (hkl : ∀ k ∈ ss, k.length ≤ 1000000) (hn : ss.length ≤ 1000000) (ht : TxtRow w v ss) :
    Calls Tryz.prog 55 #[v, .func (.func 35) #[] #[.pointer (some ⟨xb, 0, none⟩)]] w fun e w' => ∃ i : Int, e = .returned (.int .i64 i) ∧ FirstNo (matchP false pat) ss i ∧ Below w.heap.size w w' := by
  obtain ⟨o, c, rfl⟩ := ht.len
  have PR : Hid (∀ W k, Below w.heap.size w W → k ∈ ss → Calls Tryz.prog 35 #[.string ⟨k.toArray⟩, .pointer (some ⟨xb, 0, none⟩)] W fun e w' => e = .returned (.bool (!matchP false pat k)) ∧ Below W.heap.size W w') := fun W k h hk => pred_values k W ((h.cell (p := ⟨xb, 0, none⟩) hxl).trans hx) hp (hkl k hk)
  have HT := Lib.hid ht
  obtain ⟨n, hnn⟩ : ∃ n, ss.length = n := ⟨_, rfl⟩
  have HN := Lib.hid hnn
  rw [hnn] at HT hn ⊢
  clear ht hkl hx hxl hnn
  go_enter Tryz.func55, Tryz.ntmps55
  go_wp2_with fail
  go_loopg [5, 8] n (fun g _ i wr => ∃ j : Nat, j + g = n ∧ i = .int .i64 (j : Int) ∧ Below w.heap.size w wr ∧ Hid (∀ x ∈ ss.take j, matchP false pat x = true))
  case atStart => exact ⟨0, by omega, rfl, Below.refl _ _, fun x hx => by simp at hx⟩
  case round =>
    obtain ⟨j, hjg, rfl, hb, HI⟩ := hrel
    have hnn := HN.out
    by_cases hlt : j < n
    · obtain ⟨z1, hc1, hc2, h3⟩ := (HT.out.below hb).at_
      obtain ⟨b, off, rfl, hl, hc⟩ := h3 j (by omega)
      have PR2 := Lib.hid (PR.out wr _ hb (List.getElem_mem (by omega : j < ss.length)))
      have HL : Hid (∀ b, matchP false pat (ss[j]'(by omega)) = b → if b then ∀ x ∈ ss.take (j + 1), matchP false pat x = true else FirstNo (matchP false pat) ss (j : Int)) := fun b hb' => by
        cases b
        · exact .inr ⟨j, by omega, by omega, rfl, hb', HI.out⟩
        · intro x hx
          rw [List.take_succ_eq_append_getElem (by omega), List.mem_append, List.mem_singleton] at hx
          rcases hx with hx | rfl
          · exact HI.out x hx
          · exact hb'
      generalize ss[j]'(by omega) = k at *
      have hcx : wr.cell? ⟨b, off + j, none⟩ = some (.string ⟨k.toArray⟩) := hc
      have i1 : j < n := hlt
      have t0 : decide ((j : Int) < (n : Int)) = true := by rw [decide_eq_true_eq]; omega
      have HB := Lib.hid hb
      have HJ := Lib.hid hjg
      cases hm : matchP false pat k with
      | true =>
        rw [hm] at PR2
        have HL2 := Lib.hid (HL.out true hm)
        clear hm HL hnn hlt h3 hc hb hjg z1 hc1 hc2
        go_wp2_with (go_at_call 35; refine PR2.out.mono ?_; rintro e w1 ⟨rfl, hB1⟩; have H1 := Lib.hid hB1; clear hB1)
        go_roundg (gk - 1)
        case measure => have := HJ.out; omega
        case rel => exact ⟨j + 1, by have := HJ.out; omega, by go_num, HB.out.trans (H1.out.mono HB.out.size), HL2.out⟩
      | false =>
        rw [hm] at PR2
        have HL2 := Lib.hid (HL.out false hm)
        clear hm HL hnn hlt h3 hc hb hjg z1 hc1 hc2
        go_wp2_with (go_at_call 35; refine PR2.out.mono ?_; rintro e w1 ⟨rfl, hB1⟩; have H1 := Lib.hid hB1; clear hB1)
        go_ret
        exact ⟨_, rfl, HL2.out, HB.out.trans (H1.out.mono HB.out.size)⟩
    · obtain rfl : j = n := by omega
      have t0 : decide ((j : Int) < (j : Int)) = false := by rw [decide_eq_false_iff_not]; omega
      have HL2 : Hid (FirstNo (matchP false pat) ss (-1)) := .inl ⟨rfl, fun x hx => HI.out x (by rw [List.take_of_length_le (by omega)]; exact hx)⟩
      clear hnn hlt hjg
      go_wp2_with fail
      go_ret
      exact ⟨_, rfl, HL2.out, hb⟩
set_option maxRecDepth 100000 in
set_option maxHeartbeats 1600000 in
theorem del_values {B xb : Nat} {pat : Bs} {ss : List Bs} {v : Value} (w : World) (hx : w.cell? ⟨xb, 0, none⟩ = some (.string ⟨pat.toArray⟩)) (hxB : xb < B) (hB : B ≤ w.heap.size) (hp : pat.length ≤ 1000000) (hkl : ∀ k ∈ ss, k.length ≤ 1000000) (hn : ss.length ≤ 1000000) (ho : w.ownsRow B 9 1 v ss.length (ss.map sv)) :
    Calls Tryz.prog 31 #[v, .func (.func 35) #[] #[.pointer (some ⟨xb, 0, none⟩)]] w fun e w' => ∃ v', e = .returned v' ∧ TxtRow w' v' (ss.filter (matchP false pat)) ∧ Below B w w' := by
  have ht := TxtRow.of_owns ho
  have IX := Lib.hid (idx_values w hx (by omega) hp hkl hn ht)
  have PR : Hid (∀ W k, Below B w W → k ∈ ss → Calls Tryz.prog 35 #[.string ⟨k.toArray⟩, .pointer (some ⟨xb, 0, none⟩)] W fun e w' => e = .returned (.bool (!matchP false pat k)) ∧ Below W.heap.size W w') := fun W k h hk => pred_values k W ((h.cell (p := ⟨xb, 0, none⟩) hxB).trans hx) hp (hkl k hk)
  obtain ⟨o, c, rfl⟩ := ht.len
  obtain ⟨_, hnc, hcm, _⟩ := ht.at_
  obtain ⟨n, hnn⟩ : ∃ n, ss.length = n := ⟨_, rfl⟩
  rw [hnn] at IX ho hn hnc ⊢
  have HO := Lib.hid ho
  have HN := Lib.hid hnn
  unfold maxLen at hcm
  have HB0 := Lib.hid hB
  have hne : ∀ k : Nat, ((k : Int) == -1) = false := fun k => by rw [beq_eq_false_iff_ne]; omega
  clear ht ho hkl hx hnn hB
  go_enter Tryz.func31, Tryz.ntmps31
  go_wp2_with (go_at_call 55; refine IX.out.mono ?_; rintro e w1 ⟨i, rfl, hf, hB1⟩; have H1 := Lib.hid hB1; clear hB1; rcases hf with ⟨rfl, hall⟩ | ⟨k0, hk0, hk9, rfl, hm, hall⟩)
  · go_ret
    have hfl : ss.filter (matchP false pat) = ss := List.filter_eq_self.2 hall
    refine ⟨_, rfl, ?_, H1.out.mono' HB0.out⟩
    rw [hfl]
    have := TxtRow.of_owns (by rw [HN.out]; exact HO.out)
    exact this.below H1.out
  · obtain ⟨gb, hg⟩ : ∃ gb, o = some ⟨gb, 0, none⟩ := by
      have := HN.out
      rcases HO.out.2 with ⟨_, h0⟩ | ⟨g, _, _, he, _⟩
      · omega
      · cases he; exact ⟨g, rfl⟩
    subst hg
    have hgB := (ownsRow_type HO.out gb rfl).1
    have own1 := ownsRow_kp HO.out (kp_of_below H1.out) (by simp)
    have hst : Hid (ss.length = n ∧ w1.ownsRow B 9 1 (.slice (some ⟨gb, 0, none⟩) n c) n (ss.map sv) ∧ ss.take k0 = (ss.take (k0 + 1)).filter (matchP false pat) ∧ ss.drop (k0 + 1) = ss.drop (k0 + 1)) := by
      refine ⟨HN.out, own1, ?_, rfl⟩
      rw [List.take_succ_eq_append_getElem hk0, List.filter_append, List.filter_eq_self.2 hall]
      simp [hm]
    have hkn : k0 + 1 ≤ n := by have := HN.out; omega
    have hBw1 := Lib.hid (H1.out.mono' HB0.out)
    have hw1 := Lib.hid H1.out.size
    clear hall hm hk0 own1
    go_loopg [5, 6, 7] (n - (k0 + 1)) (fun g s5 s6 _ wr => ∃ (i j : Nat) (row : List Bs), j + g = n ∧ i < j ∧ s5 = .int .i64 (i : Int) ∧ s6 = .int .i64 (j : Int) ∧ Below B w wr ∧ Hid (row.length = n ∧ wr.ownsRow B 9 1 (.slice (some ⟨gb, 0, none⟩) n c) n (row.map sv) ∧ row.take i = (ss.take j).filter (matchP false pat) ∧ row.drop j = ss.drop j))
    case atStart => exact ⟨k0, k0 + 1, ss, by omega, by omega, rfl, by go_num, hBw1.out, hst.out⟩
    case round =>
      obtain ⟨i, j, row, hjg, hij, rfl, rfl, hb, HR⟩ := hrel
      obtain ⟨r1, r2, r3, r4⟩ := HR.out
      have hnn := HN.out
      by_cases hlt : j < n
      · have hx1 : row[j]'(by omega) = ss[j]'(by omega) := by
          have h1 := List.drop_eq_getElem_cons (l := row) (i := j) (by omega)
          have h2 := List.drop_eq_getElem_cons (l := ss) (i := j) (by omega)
          rw [r4, h2] at h1
          exact (List.cons.inj h1).1.symm
        have r5 : row.drop (j + 1) = ss.drop (j + 1) := by
          have h1 := congrArg (List.drop 1) r4
          simpa [List.drop_drop] using h1
        have hc := r2.cellAt j (by omega)
        rw [List.getElem?_map, List.getElem?_eq_getElem (by omega), hx1] at hc
        have PR2 := Lib.hid (PR.out wr _ hb (List.getElem_mem (by omega : j < ss.length)))
        have hft : ∀ b, matchP false pat (ss[j]'(by omega)) = b → (ss.take (j + 1)).filter (matchP false pat) = (ss.take j).filter (matchP false pat) ++ if b then [ss[j]'(by omega)] else [] := fun b hb' => by
          rw [List.take_succ_eq_append_getElem (by omega), List.filter_append]
          cases b <;> simp [hb']
        generalize ss[j]'(by omega) = k at *
        have hcx : wr.cell? ⟨gb, j, none⟩ = some (.string ⟨k.toArray⟩) := by simpa using hc
        have t0 : decide ((j : Int) < (n : Int)) = true := by rw [decide_eq_true_eq]; omega
        have i1 : j < n := hlt
        have i2 : i < n := by omega
        have HB := Lib.hid hb
        have HJ := Lib.hid (And.intro hjg hij)
        cases hm : matchP false pat k with
        | true =>
          rw [hm] at PR2
          have hf := hft true hm
          simp only [if_true] at hf
          have SET : Hid (∀ W, Below wr.heap.size wr W → W.frozen? ⟨gb, i, none⟩ = false ∧ (∃ u, W.cell? ⟨gb, i, none⟩ = some u) ∧ (row.set i k).length = n ∧ (W.setCell ⟨gb, i, none⟩ (.string ⟨k.toArray⟩)).ownsRow B 9 1 (.slice (some ⟨gb, 0, none⟩) n c) n ((row.set i k).map sv) ∧ (row.set i k).take (i + 1) = (ss.take (j + 1)).filter (matchP false pat) ∧ (row.set i k).drop (j + 1) = ss.drop (j + 1)) := fun W hW => by
            obtain ⟨q1, q2, q3⟩ := row_set (i := i) (.string ⟨k.toArray⟩) (ownsRow_kp r2 (kp_of_below hW) (by simp)) i2
            refine ⟨q1, q2, by rw [List.length_set]; exact r1, by rw [List.map_set]; exact q3, ?_, ?_⟩
            · rw [hf, ← r3, List.take_succ_eq_append_getElem (by rw [List.length_set]; omega), List.take_set_of_le (Nat.le_refl _)]
              simp
            · rw [List.drop_set_of_lt (by omega)]
              exact r5
          clear hm hft hf hnn hlt hc hb hjg hij r1 r2 r3 r4 r5 hx1 HR
          go_wp2_with (go_at_call 35; refine PR2.out.mono ?_; rintro e w2 ⟨rfl, hB2⟩; obtain ⟨f1, ⟨u, c1⟩, hS⟩ := SET.out w2 hB2; have H2 := Lib.hid (And.intro hB2 hS); clear hB2 hS)
          go_roundg (gk - 1)
          case measure => have := HJ.out; omega
          case rel => exact ⟨i + 1, j + 1, row.set i k, by have := HJ.out; omega, by have := HJ.out; omega, by go_num, by go_num, (HB.out.trans (H2.out.1.mono (Nat.le_trans HB0.out HB.out.size))).setCell hgB _, H2.out.2⟩
        | false =>
          rw [hm] at PR2
          have hf := hft false hm
          simp only [Bool.false_eq_true, if_false, List.append_nil] at hf
          have KE : Hid (∀ W, Below wr.heap.size wr W → row.length = n ∧ W.ownsRow B 9 1 (.slice (some ⟨gb, 0, none⟩) n c) n (row.map sv) ∧ row.take i = (ss.take (j + 1)).filter (matchP false pat) ∧ row.drop (j + 1) = ss.drop (j + 1)) := fun W hW => ⟨r1, ownsRow_kp r2 (kp_of_below hW) (by simp), by rw [hf]; exact r3, r5⟩
          clear hm hft hf hnn hlt hc hb hjg hij r1 r2 r3 r4 r5 hx1 HR
          go_wp2_with (go_at_call 35; refine PR2.out.mono ?_; rintro e w2 ⟨rfl, hB2⟩; have H2 := Lib.hid hB2; clear hB2)
          go_roundg (gk - 1)
          case measure => have := HJ.out; omega
          case rel => exact ⟨i, j + 1, row, by have := HJ.out; omega, by have := HJ.out; omega, rfl, by go_num, HB.out.trans (H2.out.mono (Nat.le_trans HB0.out HB.out.size)), KE.out _ H2.out⟩
      · obtain rfl : j = n := by omega
        have t0 : decide ((j : Int) < (j : Int)) = false := by rw [decide_eq_false_iff_not]; omega
        have hcl : ∀ ty, (Builtin.clear_ #[30] ty #[.slice (some ⟨gb, i, none⟩) (j - i) (c - i)]).run Tryz.prog wr = .ok (.tuple #[]) (wr.setCells gb i (List.replicate (j - i) (.string ⟨#[]⟩))) :=
          fun ty => Lib.run_clear_slice wr _ _ ty _ Tryz.underlying30 (fun w => zero_str w) rfl rfl gb i _ _ (by omega) (fun q hq => by
            have h := r2.cellAt (i + q) (by omega)
            rw [List.getElem?_map, List.getElem?_eq_getElem (by omega)] at h
            rw [h]; rfl) (fun q hq => r2.frozenAt (i + q))
        have hlen : ((ss.take j).filter (matchP false pat)).length = i := by rw [← r3, List.length_take]; omega
        have hfin : Hid (TxtRow (wr.setCells gb i (List.replicate (j - i) (.string ⟨#[]⟩))) (.slice (some ⟨gb, 0, none⟩) i c) (ss.filter (matchP false pat)) ∧ Below B w (wr.setCells gb i (List.replicate (j - i) (.string ⟨#[]⟩)))) := by
          rw [← hnn, List.take_length] at r3
          refine ⟨⟨_, c, by rw [← r3, List.length_take, show min i row.length = i by omega], by rw [← r3, List.length_take]; omega, by unfold maxLen; omega, fun q hq => ?_⟩, below_setCells hgB _ _ _ hb⟩
          have hql : q < i := by rw [← r3, List.length_take] at hq; omega
          have hsz := (below_setCells (B := B) (b := gb) (a := wr) hgB (List.replicate (j - i) (.string ⟨#[]⟩)) i wr (Below.refl _ _)).size
          refine ⟨gb, 0, rfl, Nat.lt_of_lt_of_le (r2.lt gb rfl).2 hsz, ?_⟩
          rw [World.cell?_setCells_out gb _ i wr ⟨gb, 0 + q, none⟩ (fun _ _ => .inl (by simpa using hql))]
          have h := r2.cellAt q (by omega)
          rw [List.getElem?_map, List.getElem?_eq_getElem (by omega)] at h
          have e : (ss.filter (matchP false pat))[q]'hq = row[q]'(by omega) := by
            simp only [← r3, List.getElem_take]
          rw [e]
          simpa using h
        have c4 : ¬ c = i := by omega
        have c5 : (i : Int) ≤ (j : Int) := by omega
        have c6 : (j : Int) ≤ (c : Int) := by omega
        have c7 : (i : Int) ≤ (c : Int) := by omega
        clear hjg hij hlt hnn r1 r2 r3 r4 HR hlen
        go_wp2_with fail
        go_ret
        exact ⟨_, rfl, hfin.out.1, hfin.out.2⟩
end Go.Proofs.YtpaffocniniakaaGreat
namespace Go.Proofs.YtpaffocniniakaaGreat
set_option linter.unusedVariables false
set_option linter.unusedSimpArgs false
open Go.RowKit

set_option maxRecDepth 100000 in
set_option maxHeartbeats 800000 in
theorem same_yes {va vb : Value} {ss : List Bs} (w : World) (ha : TxtRow w va ss) (hb : TxtRow w vb ss) :
    Calls Tryz.prog 14 #[va, vb] w fun e w' => e = .returned (.bool true) ∧ Below w.heap.size w w' := by
  obtain ⟨oa, ca, rfl⟩ := ha.len
  obtain ⟨ob, cb, rfl⟩ := hb.len
  obtain ⟨_, ha1, ha2, ha3⟩ := ha.at_
  obtain ⟨_, hb1, hb2, hb3⟩ := hb.at_
  unfold maxLen at ha2 hb2
  have HA := Lib.hid ha3
  have HB := Lib.hid hb3
  obtain ⟨n, hn⟩ : ∃ n, ss.length = n := ⟨_, rfl⟩
  have HN := Lib.hid hn
  rw [hn] at ha1 hb1 ⊢
  have t1 : ((n : Int) == (n : Int)) = true := by simp
  clear ha hb ha3 hb3 hn
  go_enter Tryz.func14, Tryz.ntmps14
  go_wp2_with fail
  go_loopg [5, 13] n (fun g _ i wr => ∃ k : Nat, k + g = n ∧ i = .int .i64 (k : Int) ∧ Below w.heap.size w wr)
  case atStart => exact ⟨0, by omega, rfl, Below.refl _ _⟩
  case round =>
    obtain ⟨k, hkg, rfl, hb⟩ := hrel
    have hn := HN.out
    by_cases hlt : k < n
    · obtain ⟨ga, fa, rfl, hla, hca⟩ := HA.out k (by omega)
      obtain ⟨gb, fb, rfl, hlb, hcb⟩ := HB.out k (by omega)
      have hcx : wr.cell? ⟨ga, fa + k, none⟩ = some (sv (ss[k]'(by omega))) := (hb.cell (p := ⟨ga, fa + k, none⟩) hla).trans hca
      have hcy : wr.cell? ⟨gb, fb + k, none⟩ = some (sv (ss[k]'(by omega))) := (hb.cell (p := ⟨gb, fb + k, none⟩) hlb).trans hcb
      generalize ss[k]'(by omega) = x at *
      have cx : wr.cell? ⟨ga, fa + k, none⟩ = some (.string ⟨x.toArray⟩) := hcx
      have cy : wr.cell? ⟨gb, fb + k, none⟩ = some (.string ⟨x.toArray⟩) := hcy
      have i1 : k < n := hlt
      have t0 : decide ((k : Int) < (n : Int)) = true := by rw [decide_eq_true_eq]; omega
      have HJ := Lib.hid hkg
      have HW := Lib.hid hb
      clear hkg hn hlt hca hcb hcx hcy hb
      go_wp2_with fail
      go_quiet (fail)
      go_wp2
      go_roundg (gk - 1)
      case measure => have := HJ.out; omega
      case rel => exact ⟨k + 1, by have := HJ.out; omega, by go_num, below_drewN HW.out nq⟩
    · obtain rfl : k = n := by omega
      have t0 : decide ((k : Int) < (k : Int)) = false := by rw [decide_eq_false_iff_not]; omega
      clear hkg hn hlt
      go_wp2_with fail
      go_ret
      exact ⟨rfl, hb⟩
def sizeC (s : Bs) : Int × Int := match readC s with | none => (0, 11) | some ps => ((ps.length : Int), 0)
set_option maxHeartbeats 400000 in
theorem Size_any (s : Bs) (hs : s.length ≤ 19999) (w : World) : Calls Tryz.prog 8 #[.string ⟨s.toArray⟩] w fun e w' => e = .returned (.tuple #[.int .i64 (sizeC s).1, .int .i64 (sizeC s).2]) ∧ Below w.heap.size w w' := by
  have RD := read_any s hs w
  unfold sizeC
  cases hr : readC s with
  | none =>
    have RD2 : Hid (Calls Tryz.prog 27 #[.string ⟨s.toArray⟩] w fun e w' => Below w.heap.size w w' ∧ e = .returned (.tuple #[.pointer none, .int .i64 11])) := RD.mono fun e w' ⟨h1, h2⟩ => ⟨h1, by
      rcases h2 with ⟨_, h'⟩ | ⟨_, _, _, h', _⟩
      · exact h'
      · rw [hr] at h'; cases h'⟩
    clear RD hr
    go_enter Tryz.func8, Tryz.ntmps8
    go_wp2_with (go_at_call 27; refine RD2.out.mono ?_; rintro e w1 ⟨hB1, rfl⟩; have H1 := Lib.hid hB1; clear hB1)
    go_ret2
    exact ⟨rfl, H1.out⟩
  | some ps =>
    have RD2 : Hid (Calls Tryz.prog 27 #[.string ⟨s.toArray⟩] w fun e w' => Below w.heap.size w w' ∧ ∃ b kv vv m, e = .returned (.tuple #[.pointer (some ⟨b, 0, none⟩), .int .i64 0]) ∧ w'.heap[b]? = some (.cells #[kv, .map (some m), vv] 48 (0, 0)) ∧ ∃ o c, kv = .slice o ps.length c) := RD.mono fun e w' ⟨h1, h2⟩ => ⟨h1, by
      rcases h2 with ⟨h', _⟩ | ⟨b2, F2, ps', h', he, hb, hF⟩
      · rw [hr] at h'; cases h'
      · rw [hr] at h'; cases h'
        obtain ⟨kv, vv, m, hbb, hk, _⟩ := hb.ex
        exact ⟨b2, kv, vv, m, he, hbb, row_shape hk⟩⟩
    clear RD hr
    simp only
    generalize ps.length = n at *
    go_enter Tryz.func8, Tryz.ntmps8
    go_wp2_with (go_at_call 27; refine RD2.out.mono ?_; rintro e w1 ⟨hB1, b, kv, vv, m, rfl, hbb, o, c, rfl⟩; obtain ⟨c0, _, _, _⟩ := cells3 hbb; have H1 := Lib.hid hB1; clear hB1 hbb)
    go_ret2
    exact ⟨rfl, H1.out⟩
set_option maxHeartbeats 400000 in
theorem rSize_any (s : Bs) (hs : s.length ≤ 19999) (w : World) : Calls Tryz.prog 9 #[.string ⟨s.toArray⟩] w fun e w' => e = .returned (.tuple #[.int .i64 (sizeC s).1, .int .i64 (sizeC s).2]) ∧ Below w.heap.size w w' := by
  unfold sizeC
  cases hr : readC s with
  | none =>
    have P1 := Lib.hid (rp_none hs hr w)
    clear hr
    go_enter Tryz.func9, Tryz.ntmps9
    go_wp2_with (go_at_call 13; refine P1.out.mono ?_; rintro e w1 ⟨rfl, hB1⟩; have H1 := Lib.hid hB1; clear hB1)
    go_ret2
    exact ⟨rfl, H1.out⟩
  | some ps =>
    have P1 := Lib.hid (rp_some hs hr w)
    have hrl := read_len hr
    have hfl := flatP_len ps
    obtain ⟨n, hn⟩ : ∃ n, (flatP ps).length = n := ⟨_, rfl⟩
    rw [hn] at P1
    have HN : Hid ((n : Int) / 2 = (ps.length : Int)) := by show _ = _; omega
    have hn2 : n ≤ 1000000 := by omega
    clear hr hrl hfl hn
    simp only
    obtain ⟨k, hk⟩ : ∃ k : Int, (ps.length : Int) = k := ⟨_, rfl⟩
    rw [hk] at HN ⊢
    clear hk
    go_enter Tryz.func9, Tryz.ntmps9
    go_wp2_with (go_at_call 13; refine P1.out.mono ?_; rintro e w1 ⟨o1, c1, rfl, hB1, hT1⟩; have H1 := Lib.hid hB1; clear hB1 hT1)
    go_ret2
    refine ⟨?_, H1.out⟩
    rw [← HN.out]; rfl
/-- A pair's key (0) or value. -/
def sideP (wh : Nat) (p : Bs × Bs) : Bs := if wh = 0 then p.1 else p.2
/-- The keys (0) or the values that a pattern matches, and the error. -/
def everyC (wh : Nat) (s pat : Bs) : List Bs × Int := match readC s with | none => ([], 11) | some ps => ((ps.map (sideP wh)).filter (matchP false pat), 0)
theorem side_take {ps : Prs} {j wh : Nat} (h : j < ps.length) (m : Bs → Bool) : ((ps.take (j + 1)).map (sideP wh)).filter m = ((ps.take j).map (sideP wh)).filter m ++ if m (sideP wh ps[j]) then [sideP wh ps[j]] else [] := by
  rw [List.take_succ_eq_append_getElem h, List.map_append, List.filter_append]
  by_cases hm : m (sideP wh ps[j]) = true
  · rw [if_pos hm]; simp [hm]
  · rw [if_neg hm]; simp [hm]
theorem flat_side {ps : Prs} {j wh : Nat} (hw : wh ≤ 1) (h : j < ps.length) : (flatP ps)[2 * j + wh]'(by rw [flatP_len]; omega) = sideP wh ps[j] := by
  unfold sideP
  rcases Nat.lt_or_ge 0 wh with h1 | h1
  · obtain rfl : wh = 1 := by omega
    rw [if_neg (by decide)]
    exact (flat_at' h).2
  · obtain rfl : wh = 0 := by omega
    rw [if_pos rfl]
    exact (flat_at' h).1
set_option maxRecDepth 100000 in
set_option maxHeartbeats 1600000 in
theorem every_any (s pat : Bs) (wh : Nat) (hw : wh ≤ 1) (hs : s.length ≤ 19999) (hp : pat.length ≤ 1000000) (w : World) :
    Calls Tryz.prog 34 #[.string ⟨s.toArray⟩, .string ⟨pat.toArray⟩, .int .i64 (wh : Int)] w fun e w' => ∃ v, e = .returned (.tuple #[v, .int .i64 (everyC wh s pat).2]) ∧ TxtRow w' v (everyC wh s pat).1 ∧ Below w.heap.size w w' := by
  unfold everyC
  cases hr : readC s with
  | none =>
    have P1 := Lib.hid (rp_none hs hr w)
    clear hr
    go_enter Tryz.func34, Tryz.ntmps34
    go_wp2_with (go_at_call 13; refine P1.out.mono ?_; rintro e w1 ⟨rfl, hB1⟩; have H1 := Lib.hid hB1; clear hB1)
    go_ret2
    exact ⟨_, rfl, TxtRow.nil _, H1.out⟩
  | some ps =>
    have P1 := Lib.hid (rp_some hs hr w)
    have hrl := read_len hr
    have hfl := flatP_len ps
    have GL : Hid (∀ W j, j < ps.length → Calls Tryz.prog 39 #[.string ⟨pat.toArray⟩, .string ⟨(sideP wh (ps.getD j ([], []))).toArray⟩, .bool false] W fun e w' => e = .returned (.bool (matchP false pat (sideP wh (ps.getD j ([], []))))) ∧ Below W.heap.size W w') := fun W j hj => rglob_m pat _ false hp (by
      have e : ps.getD j ([], []) = ps[j] := by simp [List.getD, hj]
      rw [e]
      have := read_mem hr (List.getElem_mem hj)
      unfold sideP; split <;> omega) W
    obtain ⟨n, hn⟩ : ∃ n, (flatP ps).length = n := ⟨_, rfl⟩
    rw [hn] at P1
    have HN := Lib.hid (And.intro hn (And.intro hfl hrl))
    have hn2 : n ≤ 100000 := by omega
    clear hr hrl hfl hn
    simp only
    go_enter Tryz.func34, Tryz.ntmps34
    go_wp2_with (go_at_call 13; refine P1.out.mono ?_; rintro e w1 ⟨o1, c1, rfl, hB1, hT1⟩; have H1 := Lib.hid (And.intro hB1 hT1); clear hB1 hT1)
    go_loopg [10, 11] ps.length (fun g out i wr => ∃ j : Nat, j + g = ps.length ∧ i = .int .i64 ((2 * j + wh : Nat) : Int) ∧ Hid (wr.ownsRow w1.heap.size 9 1 out (((ps.take j).map (sideP wh)).filter (matchP false pat)).length ((((ps.take j).map (sideP wh)).filter (matchP false pat)).map sv)) ∧ Below w1.heap.size w1 wr)
    case atStart => exact ⟨0, by omega, by go_num, World.ownsRow_nil _ _ _ _, Below.refl _ _⟩
    case round =>
      obtain ⟨j, hjg, rfl, HO, hb⟩ := hrel
      obtain ⟨hn, hfl, hrl⟩ := HN.out
      obtain ⟨ao, cap, rfl⟩ := owns_slice HO.out
      have hlf := List.length_filter_le (matchP false pat) ((ps.take j).map (sideP wh))
      rw [List.length_map, List.length_take] at hlf
      by_cases hlt : j < ps.length
      · obtain ⟨z1, hc0, hcm0, h0⟩ := (H1.out.2.below hb).at_
        obtain ⟨g0, f0, rfl, hl0, hc00⟩ := h0 (2 * j + wh) (by omega)
        rw [flat_side hw hlt] at hc00
        have GL2 := Lib.hid (GL.out wr j hlt)
        rw [show ps.getD j ([], []) = ps[j] by simp [List.getD, hlt]] at GL2
        have HST := Lib.hid (side_take (wh := wh) hlt (matchP false pat))
        generalize sideP wh ps[j] = x at *
        obtain ⟨acc, hacc⟩ : ∃ acc, ((ps.take j).map (sideP wh)).filter (matchP false pat) = acc := ⟨_, rfl⟩
        rw [hacc] at HO HST hlf
        obtain ⟨fa, hfa⟩ : ∃ fa, acc.length = fa := ⟨_, rfl⟩
        rw [hfa] at HO hlf
        have HFA := Lib.hid hfa
        rw [hacc, hfa]
        obtain ⟨jj, hjj⟩ : ∃ jj, 2 * j + wh = jj := ⟨_, rfl⟩
        rw [hjj] at hc00 ⊢
        have hA : wr.cell? ⟨g0, f0 + jj, none⟩ = some (.string ⟨x.toArray⟩) := hc00
        have i1 : jj < n := by omega
        have i6 : jj ≤ 100000 := by omega
        have i7 : fa ≤ 100000 := by omega
        have t0 : decide ((jj : Int) < (n : Int)) = true := by rw [decide_eq_true_eq]; omega
        have HJ := Lib.hid (And.intro hjj hjg)
        have HB := Lib.hid hb
        clear hjj hjg hn hfl hrl z1 hc0 hcm0 h0 hc00 hb hlt hacc hfa hlf GL
        cases hm : matchP false pat x with
        | true =>
          rw [hm] at GL2 HST
          have OW : Hid (∀ W, Below wr.heap.size wr W → W.cell? ⟨g0, f0 + jj, none⟩ = some (.string ⟨x.toArray⟩) ∧ W.ownsRow w1.heap.size 9 1 (.slice ao fa cap) fa (acc.map sv)) := fun W h => ⟨(h.cell (p := ⟨g0, f0 + jj, none⟩) hl0).trans hA, ownsRow_kp HO.out (kp_of_below h) (by simp)⟩
          clear hm
          go_wp2_with (first | (go_at_call 39; refine GL2.out.mono ?_; rintro e w2 ⟨rfl, hB2⟩; obtain ⟨hA2, hO2⟩ := OW.out _ hB2; have H2 := Lib.hid (And.intro hB2 hO2); clear hB2 hO2) | (at_builtin; go_loud (refine wpList_push rfl _ _ 30 rfl w1.heap.size 9 (.string ⟨#[]⟩) 16 Tryz.underlying30 infoStr rfl (.slice ao fa cap) fa (acc.map sv) rfl H2.out.2 (.string ⟨x.toArray⟩) _ rfl rfl (by unfold maxLen; omega) (by omega) (Nat.le_trans HB.out.size H2.out.1.size) ?_); intro g c3 w3 hg hown3 hB3 _; have H3 := Lib.hid (And.intro hown3 hB3); clear hown3 hB3))
          go_roundg (gk - 1)
          case measure => have := HJ.out; have := HN.out; omega
          case rel =>
            have hj := HJ.out
            have hn := HN.out
            refine ⟨j + 1, by omega, by rw [show 2 * (j + 1) + wh = jj + 2 by omega]; go_num, ?_, (HB.out.trans (H2.out.1.mono HB.out.size)).trans H3.out.2⟩
            show World.ownsRow _ _ _ _ _ _ _
            rw [HST.out]
            simp only [if_true]
            rw [List.length_append, List.map_append, HFA.out]
            exact H3.out.1
        | false =>
          rw [hm] at GL2 HST
          clear hm
          go_wp2_with (go_at_call 39; refine GL2.out.mono ?_; rintro e w2 ⟨rfl, hB2⟩; have H2 := Lib.hid hB2; clear hB2)
          go_roundg (gk - 1)
          case measure => have := HJ.out; have := HN.out; omega
          case rel =>
            have hj := HJ.out
            have hn := HN.out
            refine ⟨j + 1, by omega, by rw [show 2 * (j + 1) + wh = jj + 2 by omega]; go_num, ?_, HB.out.trans (H2.out.mono HB.out.size)⟩
            show World.ownsRow _ _ _ _ _ _ _
            rw [HST.out]
            simp only [Bool.false_eq_true, if_false, List.append_nil]
            rw [HFA.out]
            exact ownsRow_kp HO.out (kp_of_below H2.out) (by simp)
      · obtain rfl : j = ps.length := by omega
        have HTR := Lib.hid (TxtRow.of_owns HO.out)
        rw [List.take_length] at HTR ⊢
        have t0 : decide (((2 * ps.length + wh : Nat) : Int) < (n : Int)) = false := by rw [decide_eq_false_iff_not]; omega
        have hbw := Lib.hid (H1.out.1.trans (hb.mono H1.out.1.size))
        obtain ⟨jj, hjj⟩ : ∃ jj, 2 * ps.length + wh = jj := ⟨_, rfl⟩
        rw [hjj] at t0 ⊢
        have hjn : ¬ jj < n := by omega
        obtain ⟨fa, hfa⟩ : ∃ fa, ((ps.map (sideP wh)).filter (matchP false pat)).length = fa := ⟨_, rfl⟩
        rw [hfa] at HTR ⊢
        clear hn hfl hrl hjg hlt hlf hb hjj hfa
        go_wp2_with fail
        go_ret2
        exact ⟨_, rfl, HTR.out, hbw.out⟩
end Go.Proofs.YtpaffocniniakaaGreat

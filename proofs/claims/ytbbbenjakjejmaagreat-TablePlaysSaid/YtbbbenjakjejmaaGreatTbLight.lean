/- 'light' of the statements on layer 17. -/
import Derived.Test.YtbbbenjakjejmaaGreatTbRep
import Derived.IntWalk
namespace Go.Proofs.YtbbbenjakjejmaaGreat
set_option linter.unusedVariables false
set_option linter.unusedSimpArgs false
open Go.RowKit Go.MapKept

/-- An act: kind, number, two texts. -/
structure ActV where
  k : Int
  a : Int
  s : Bs
  t : Bs
def sumA : List ActV → Nat
  | [] => 0
  | x :: l => x.s.length + x.t.length + 1 + sumA l
def lightB (l : List ActV) : Bool := decide (l.length ≤ 60) && decide (sumA l ≤ 1500)
theorem sumA_append (l m : List ActV) : sumA (l ++ m) = sumA l + sumA m := by
  induction l with
  | nil => simp [sumA]
  | cons x l ih => simp [sumA, ih]; omega
theorem sumA_mem {l : List ActV} {x : ActV} (h : x ∈ l) : x.s.length + x.t.length + 1 ≤ sumA l := by
  induction l with
  | nil => simp at h
  | cons y l ih =>
    rw [List.mem_cons] at h
    rcases h with rfl | h
    · simp [sumA]
    · have := ih h; simp [sumA]; omega
/-- Ints, and texts that memory can hold. -/
def AOk (x : ActV) : Prop := (Lit.int .i64 x.k).wf = true ∧ (Lit.int .i64 x.a).wf = true ∧ x.s.length ≤ 140737488355328 ∧ x.t.length ≤ 140737488355328
theorem sumA_le {l : List ActV} (h : ∀ x ∈ l, AOk x) : sumA l ≤ l.length * 281474976710657 := by
  induction l with
  | nil => simp [sumA]
  | cons x l ih =>
    have h1 := (h x (by simp)).2.2
    have := ih (fun y hy => h y (by simp [hy]))
    simp only [sumA, List.length_cons]; omega

/-- The acts lie below block n. -/
def ARow (n : Nat) (w : World) (ao : Option Addr) (l : List ActV) : Prop := l ≠ [] → ∃ b off, ao = some ⟨b, off, none⟩ ∧ b < n ∧ ∀ (i : Nat) (h : i < l.length),
  w.cell? ⟨b, off + i * 4, none⟩ = some (.int .i64 l[i].k) ∧ w.cell? ⟨b, off + i * 4 + 1, none⟩ = some (.int .i64 l[i].a) ∧
  w.cell? ⟨b, off + i * 4 + 2, none⟩ = some (.string ⟨l[i].s.toArray⟩) ∧ w.cell? ⟨b, off + i * 4 + 3, none⟩ = some (.string ⟨l[i].t.toArray⟩)

theorem ARow.below {n : Nat} {w w' : World} {ao : Option Addr} {l : List ActV} (h : ARow n w ao l) (hb : Below n w w') : ARow n w' ao l := by
  intro hne
  obtain ⟨b, off, h1, h2, h3⟩ := h hne
  refine ⟨b, off, h1, h2, fun i hi => ?_⟩
  obtain ⟨c0, c1, c2, c3⟩ := h3 i hi
  exact ⟨(hb.cell (p := ⟨b, _, none⟩) h2).trans c0, (hb.cell (p := ⟨b, _, none⟩) h2).trans c1, (hb.cell (p := ⟨b, _, none⟩) h2).trans c2, (hb.cell (p := ⟨b, _, none⟩) h2).trans c3⟩

set_option maxRecDepth 100000 in
set_option maxHeartbeats 1600000 in
theorem light_any (l : List ActV) (ao : Option Addr) (cap : Nat) (hl : l.length ≤ 9223372036854775807) (hok : ∀ x ∈ l, AOk x) (w : World) (hR : ARow w.heap.size w ao l) :
    Calls Tryz.prog 4 #[.slice ao l.length cap] w fun e w' => e = .returned (.bool (lightB l)) ∧ Below w.heap.size w w' := by
  have HOK := Lib.hid hok
  have HR := Lib.hid hR
  clear hok hR
  by_cases h60 : l.length ≤ 60
  · go_enter Tryz.func4, Tryz.ntmps4
    go_wp2_with fail
    go_loopw [3, 8] (fun n i wr => ∃ k : Nat, k ≤ l.length ∧ i = .int .i64 k ∧ n = .int .i64 (sumA (l.take k) : Nat) ∧ Below w.heap.size w wr) (fun _ i _ => l.length - (intOf i).toNat)
    case atStart => exact ⟨0, Nat.zero_le _, rfl, rfl, Below.refl _ _⟩
    case round =>
      obtain ⟨k, hk, rfl, rfl, hb⟩ := hrel
      by_cases hlt : k < l.length
      · obtain ⟨b, off, rfl, hbl, hc⟩ := HR.out (by intro h; rw [h] at hlt; simp at hlt)
        obtain ⟨c0, c1, c2, c3⟩ := hc k hlt
        have d0 := (hb.cell (p := ⟨b, _, none⟩) hbl).trans c0
        have d1 := (hb.cell (p := ⟨b, _, none⟩) hbl).trans c1
        have d2 := (hb.cell (p := ⟨b, _, none⟩) hbl).trans c2
        have d3 := (hb.cell (p := ⟨b, _, none⟩) hbl).trans c3
        have hx := HOK.out l[k] (List.getElem_mem _)
        have hs := sumA_le (l := l.take k) (fun x hx => HOK.out x (List.mem_of_mem_take hx))
        have hs2 : (l.take k).length ≤ 60 := by simp; omega
        have HS : Hid (sumA (l.take (k + 1)) = sumA (l.take k) + (l[k].s.length + l[k].t.length + 1)) := by
          show _ = _
          rw [List.take_succ_eq_append_getElem hlt, sumA_append]; simp [sumA]
        obtain ⟨_, _, x3, x4⟩ := hx
        have hs3 : sumA (l.take k) ≤ 60 * 281474976710657 := Nat.le_trans hs (Nat.mul_le_mul_right _ hs2)
        generalize l[k] = x at *
        obtain ⟨xk, xa, xs, xt⟩ := x
        simp only at d0 d1 d2 d3 x3 x4 HS
        generalize sumA (l.take k) = n at *
        clear c0 c1 c2 c3 hc hs hs2
        have HBW := Lib.hid hb
        go_wp2_with fail
        exact ⟨⟨k + 1, by omega, by go_num, by rw [HS.out]; go_num, HBW.out.alloc HBW.out.size _⟩, by simp [intOf]; omega⟩
      · have hkl : k = l.length := by omega
        subst hkl
        have h6 : decide ((l.length : Int) ≤ 60) = true := by simp; omega
        have h6n : decide (l.length ≤ 60) = true := by simpa using h60
        rw [List.take_length]
        have HF : Hid (lightB l = decide (sumA l ≤ 1500)) := by show _ = _; simp [lightB, h60]
        have HBW := Lib.hid hb
        by_cases h2 : sumA l ≤ 1500
        · have h7 : decide ((sumA l : Int) ≤ 1500) = true := by simp; omega
          have h7n : decide (sumA l ≤ 1500) = true := by simpa using h2
          rw [h7n] at HF
          generalize sumA l = n at *
          go_wp2_with fail
          go_ret
          exact ⟨by rw [HF.out]; rfl, HBW.out⟩
        · have h7 : decide ((sumA l : Int) ≤ 1500) = false := by simp; omega
          have h7n : decide (sumA l ≤ 1500) = false := by simpa using h2
          rw [h7n] at HF
          generalize sumA l = n at *
          go_wp2_with fail
          go_ret
          exact ⟨by rw [HF.out]; rfl, HBW.out⟩
  · have HF : Hid (lightB l = false) := by show _ = _; simp [lightB, h60]
    go_enter Tryz.func4, Tryz.ntmps4
    go_wp2_with fail
    go_loopw [3, 8] (fun n i wr => ∃ (k : Nat) (m : Int), k ≤ l.length ∧ i = .int .i64 k ∧ n = .int .i64 m ∧ Below w.heap.size w wr) (fun _ i _ => l.length - (intOf i).toNat)
    case atStart => exact ⟨0, 0, Nat.zero_le _, rfl, rfl, Below.refl _ _⟩
    case round =>
      obtain ⟨k, m, hk, rfl, rfl, hb⟩ := hrel
      by_cases hlt : k < l.length
      · obtain ⟨b, off, rfl, hbl, hc⟩ := HR.out (by intro h; rw [h] at hlt; simp at hlt)
        obtain ⟨c0, c1, c2, c3⟩ := hc k hlt
        have d0 := (hb.cell (p := ⟨b, _, none⟩) hbl).trans c0
        have d1 := (hb.cell (p := ⟨b, _, none⟩) hbl).trans c1
        have d2 := (hb.cell (p := ⟨b, _, none⟩) hbl).trans c2
        have d3 := (hb.cell (p := ⟨b, _, none⟩) hbl).trans c3
        generalize l[k] = x at *
        obtain ⟨xk, xa, xs, xt⟩ := x
        simp only at d0 d1 d2 d3
        clear c0 c1 c2 c3 hc
        have HBW := Lib.hid hb
        go_wp2_with fail
        exact ⟨⟨k + 1, _, by omega, by go_num, rfl, HBW.out.alloc HBW.out.size _⟩, by simp [intOf]; omega⟩
      · have hkl : k = l.length := by omega
        subst hkl
        have h6 : decide ((l.length : Int) ≤ 60) = false := by simp; omega
        have h6n : decide (l.length ≤ 60) = false := by simpa using h60
        have HBW := Lib.hid hb
        go_wp2_with fail
        go_ret
        exact ⟨by rw [HF.out]; rfl, HBW.out⟩
end Go.Proofs.YtbbbenjakjejmaaGreat

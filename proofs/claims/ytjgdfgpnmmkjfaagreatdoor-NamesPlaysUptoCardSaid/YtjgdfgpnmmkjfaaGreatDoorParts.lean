/- The reference's 'parts': plainly, and walked. -/
import Derived.Test.YtjgdfgpnmmkjfaaGreatDoorHeap
import Derived.Test.YtjgdfgpnmmkjfaaGreatDoorFind
import Derived.Test.YtjgdfgpnmmkjfaaGreatDoorRIn
import Derived.Test.YtjgdfgpnmmkjfaaGreatDoorGlobP
namespace Go.Proofs.YtjgdfgpnmmkjfaaGreatDoor
set_option linter.unusedVariables false
set_option linter.unusedSimpArgs false
open Go.RowKit

inductive RP where
  | many | any | none | set (s : Bs) | one (c : UInt8)

def RP.cells : RP → List Value
  | .many => [.bool true, .bool false, .bool false, .string ⟨([] : Bs).toArray⟩, .int .u8 0, .bool false]
  | .any => [.bool false, .bool true, .bool false, .string ⟨([] : Bs).toArray⟩, .int .u8 0, .bool false]
  | .none => [.bool false, .bool false, .bool true, .string ⟨([] : Bs).toArray⟩, .int .u8 0, .bool false]
  | .set s => [.bool false, .bool false, .bool false, .string ⟨s.toArray⟩, .int .u8 0, .bool true]
  | .one c => [.bool false, .bool false, .bool false, .string ⟨([] : Bs).toArray⟩, .int .u8 c.toNat, .bool false]

def RP.row (l : List RP) : List Value := l.flatMap RP.cells
theorem RP.row_snoc (l : List RP) (x : RP) : RP.row l ++ x.cells = RP.row (l ++ [x]) := by simp [RP.row]

def partsF : Nat → Bs → List RP
  | 0, _ => []
  | _ + 1, [] => []
  | n + 1, c :: r =>
    if c = 42 then .many :: partsF n r
    else if c = 63 then .any :: partsF n r
    else if c = 91 then
      if Lib.indexByte r 93 < 0 then [.none]
      else .set (r.take (Lib.indexByte r 93).toNat) :: partsF n (r.drop ((Lib.indexByte r 93).toNat + 1))
    else if c = 92 ∧ r ≠ [] then .one (r.headD 0) :: partsF n r.tail
    else .one c :: partsF n r
def partsA (p : Bs) : List RP := partsF p.length p

theorem partsF_fuel : ∀ (n m : Nat) (p : Bs), p.length ≤ n → p.length ≤ m → partsF n p = partsF m p := by
  intro n
  induction n with
  | zero => intro m p h _; have : p = [] := List.length_eq_zero_iff.1 (by omega); subst this; cases m <;> rfl
  | succ n ih =>
    intro m p h1 h2
    cases p with
    | nil => cases m <;> rfl
    | cons c r =>
      cases m with
      | zero => simp at h2
      | succ m =>
        simp only [List.length_cons] at h1 h2
        simp only [partsF]
        rw [ih m r (by omega) (by omega), ih m _ (by simp; omega) (by simp; omega), ih m r.tail (by simp; omega) (by simp; omega)]
theorem partsA_nil : partsA [] = [] := rfl
theorem partsA_star {r : Bs} : partsA (42 :: r) = .many :: partsA r := by simp [partsA, partsF]
theorem partsA_any {r : Bs} : partsA (63 :: r) = .any :: partsA r := by simp [partsA, partsF]
theorem partsA_bad {r : Bs} (h : Lib.indexByte r 93 < 0) : partsA (91 :: r) = [.none] := by simp [partsA, partsF, h]
theorem partsA_set {r : Bs} (h : ¬ Lib.indexByte r 93 < 0) : partsA (91 :: r) = .set (r.take (Lib.indexByte r 93).toNat) :: partsA (r.drop ((Lib.indexByte r 93).toNat + 1)) := by
  simp only [partsA, List.length_cons, partsF]
  rw [if_neg (by decide), if_neg (by decide), if_pos trivial, if_neg h, partsF_fuel r.length _ _ (by simp) (Nat.le_refl _)]
theorem partsA_esc {d : UInt8} {r : Bs} : partsA (92 :: d :: r) = .one d :: partsA r := by
  simp only [partsA, List.length_cons]
  rw [partsF, if_neg (by decide), if_neg (by decide), if_neg (by decide), if_pos ⟨rfl, by simp⟩, List.tail_cons, partsF_fuel _ r.length r (by omega) (Nat.le_refl _)]
  rfl
theorem partsA_lit {c : UInt8} {r : Bs} (h1 : c ≠ 42) (h2 : c ≠ 63) (h3 : c ≠ 91) (h4 : ¬ (c = 92 ∧ r ≠ [])) : partsA (c :: r) = .one c :: partsA r := by
  simp only [partsA, List.length_cons]
  rw [partsF, if_neg h1, if_neg h2, if_neg h3, if_neg h4]

/-- Where the reference finds the end of a set. -/
theorem first_end (p : Bs) (i : Nat) (hi : i < p.length) :
    (Lib.indexByte (p.drop (i + 1)) 93 < 0 → firstI [93] p ((i : Int) + 1) = -1) ∧ (∀ k : Nat, Lib.indexByte (p.drop (i + 1)) 93 = k → firstI [93] p ((i : Int) + 1) = ((i + 1 + k : Nat) : Int) ∧ i + 1 + k < p.length) := by
  have hst : ∀ j, stB [93] p j = true ↔ p[j]? = some 93 := by
    intro j
    simp only [stB, beq_iff_eq, List.length_cons, List.length_nil]
    by_cases hj : j < p.length
    · rw [List.drop_eq_getElem_cons hj, List.getElem?_eq_getElem hj, show 0 + 1 = 1 from rfl, List.take_succ_cons, List.take_zero]; simp
    · rw [List.drop_eq_nil_of_le (by omega), List.getElem?_eq_none (by omega)]; simp
  have hP : ∀ j, (!([93] : Bs).isEmpty && decide (((i : Int) + 1) ≤ (j : Nat)) && stB [93] p j) = true ↔ i + 1 ≤ j ∧ p[j]? = some 93 := by
    intro j
    rw [Bool.and_eq_true, Bool.and_eq_true, hst, decide_eq_true_eq]
    constructor
    · rintro ⟨⟨_, h⟩, h2⟩; exact ⟨by omega, h2⟩
    · rintro ⟨h, h2⟩; exact ⟨⟨rfl, by omega⟩, h2⟩
  constructor
  · intro hneg
    have hm : Lib.indexByte (p.drop (i + 1)) 93 = -1 := by have := Lib.indexByte_ge (p.drop (i + 1)) 93; omega
    have hno := Lib.indexByte_none hm
    rcases fstG_spec (fun (j : Nat) => !([93] : Bs).isEmpty && decide (((i : Int) + 1) ≤ (j : Nat)) && stB [93] p j) p.length 0 with ⟨h, _⟩ | ⟨k, h1, _, h3, h4, _⟩
    · exact h
    · have := (hP k).1 h4
      have h5 := hno (k - (i + 1))
      rw [List.getElem?_drop, show i + 1 + (k - (i + 1)) = k from by omega] at h5
      exact absurd this.2 h5
  · intro k hk
    obtain ⟨h1, h2⟩ := Lib.indexByte_some hk
    rw [List.getElem?_drop] at h1
    have hlt := (List.getElem?_eq_some_iff.1 h1).1
    refine ⟨?_, hlt⟩
    rcases fstG_spec (fun (j : Nat) => !([93] : Bs).isEmpty && decide (((i : Int) + 1) ≤ (j : Nat)) && stB [93] p j) p.length 0 with ⟨_, h⟩ | ⟨m, h3, _, h5, h6, h7⟩
    · have h8 := h (i + 1 + k) (by omega) (by omega)
      have h9 := (hP (i + 1 + k)).2 ⟨by omega, h1⟩
      rw [h9] at h8; simp at h8
    · show fstG _ _ _ = _
      rw [h3]
      have h8 := (hP m).1 h6
      have h9 : ¬ m < i + 1 + k := by
        intro hlt2
        have := h2 (m - (i + 1)) (by omega)
        rw [List.getElem?_drop, show i + 1 + (m - (i + 1)) = m from by omega] at this
        exact this h8.2
      have h10 : ¬ i + 1 + k < m := by
        intro hlt2
        have h11 := h7 (i + 1 + k) (by omega) hlt2
        have h12 := (hP (i + 1 + k)).2 ⟨by omega, h1⟩
        rw [h12] at h11; simp at h11
      congr 1; omega

theorem done_part {all rest : List RP} {done : List RP} {x : RP} (h : all = done ++ x :: rest) : Hid (all = (done ++ [x]) ++ rest) := by
  show _ = _; rw [h]; simp

theorem Tryz.infoPart : (Tryz.prog.info? 127).map (fun i => (i.zero, i.size, i.bytes)) = some (some (.agg #[.bool false, .bool false, .bool false, .string ByteArray.empty, .int .u8 0, .bool false]), 6, 32) := by kernel_rfl

def RPost (l : List RP) (w : World) (e : Ending) (w' : World) : Prop :=
  Below w.heap.size w w' ∧ ∃ v, e = .returned v ∧ w'.ownsRow w.heap.size 127 6 v l.length (RP.row l)

set_option maxRecDepth 100000 in
set_option maxHeartbeats 1600000 in
theorem parts_any (p : Bs) (hp : p.length ≤ 1000000) (w : World) :
    Calls Tryz.prog 101 #[.string ⟨p.toArray⟩] w (RPost (partsA p) w) := by
  go_enter Tryz.func101, Tryz.ntmps101
  go_wp2_with fail
  go_loopw [3, 4, 5] (fun v3 v4 _ wr => ∃ (i : Nat) (done : List RP), i ≤ p.length ∧ v4 = .int .i64 i ∧ wr.ownsRow w.heap.size 127 6 v3 done.length (RP.row done) ∧ Below w.heap.size w wr ∧
      Hid (partsA p = done ++ partsA (p.drop i)) ∧ done.length ≤ i)
    (fun _ v4 _ _ => p.length - (intOf v4).toNat)
  case atStart => exact ⟨0, [], Nat.zero_le _, rfl, World.ownsRow_nil _ _ _ _, Below.refl _ _, by simp [Hid], by simp⟩
  case round =>
    obtain ⟨i, done, hi, rfl, hown, hb, HS, hdl⟩ := hrel
    have hsz := hb.size
    by_cases hlt : i < p.length
    · have h255 := byte_lt p[i]
      have hdrop := List.drop_eq_getElem_cons hlt
      by_cases h42 : p[i] = 42
      · have t42 : ((p[i].toNat : Int) == 42) = true := by rw [h42]; rfl
        have HD := done_part (show partsA p = done ++ .many :: partsA (p.drop (i + 1)) from by have h := HS.out; rw [hdrop, h42, partsA_star] at h; exact h)
        clear HS hdrop
        go_wp2_with (at_builtin; refine wpList_pushK rfl _ _ 123 rfl w.heap.size 127 _ 6 32 Tryz.underlying123 Tryz.infoPart rfl (by decide) _ done.length (RP.row done) rfl hown RP.many.cells rfl wr.heap.size rfl rfl rfl (by unfold maxLen; omega) (by omega) (by omega) ?_; intro g cap w1 hg hown1 hb1 hk1; rw [RP.row_snoc] at hown1)
        go_roundw
        case rel => exact ⟨i + 1, done ++ [.many], by omega, by go_num, by simpa using hown1, hb.trans hb1, HD, by simp; omega⟩
        case measure => simp [intOf]; omega
      · have t42 : ((p[i].toNat : Int) == 42) = false := by rw [beq_eq_false_iff_ne]; intro h; exact h42 (byte_inj (by show _ = 42; omega))
        by_cases h63 : p[i] = 63
        · have t63 : ((p[i].toNat : Int) == 63) = true := by rw [h63]; rfl
          have HD := done_part (show partsA p = done ++ .any :: partsA (p.drop (i + 1)) from by have h := HS.out; rw [hdrop, h63, partsA_any] at h; exact h)
          clear HS hdrop
          go_wp2_with (at_builtin; refine wpList_pushK rfl _ _ 123 rfl w.heap.size 127 _ 6 32 Tryz.underlying123 Tryz.infoPart rfl (by decide) _ done.length (RP.row done) rfl hown (RP.cells .any) rfl wr.heap.size rfl rfl rfl (by unfold maxLen; omega) (by omega) (by omega) ?_; intro g cap w1 hg hown1 hb1 hk1; rw [RP.row_snoc] at hown1)
          go_roundw
          case rel => exact ⟨i + 1, done ++ [.any], by omega, by go_num, by simpa using hown1, hb.trans hb1, HD, by simp; omega⟩
          case measure => simp [intOf]; omega
        · have t63 : ((p[i].toNat : Int) == 63) = false := by rw [beq_eq_false_iff_ne]; intro h; exact h63 (byte_inj (by show _ = 63; omega))
          by_cases h91 : p[i] = 91
          · have t91 : ((p[i].toNat : Int) == 91) = true := by rw [h91]; rfl
            have hfe := first_end p i hlt
            have hri : ∀ W, Calls Tryz.prog 125 #[.string ⟨#[93]⟩, .string ⟨p.toArray⟩, .int .i64 ((i : Int) + 1)] W fun e w' => e = .returned (.int .i64 (firstI [93] p ((i : Int) + 1))) ∧ W = w' := fun W => rFirst_any [93] p ((i : Int) + 1) (by simp) hp W
            by_cases hneg : Lib.indexByte (p.drop (i + 1)) 93 < 0
            · have hr : partsA p = done ++ [.none] := by
                have h := HS.out
                rw [hdrop, h91, partsA_bad hneg] at h
                exact h
              have HR := Lib.hid hr
              rw [hfe.1 hneg] at hri
              have HRI := Lib.hid hri
              clear hri hfe hr HS hdrop hneg
              go_wp2_with (first | (go_at_call 125; refine (HRI.out _).mono ?_; rintro e w' ⟨rfl, rfl⟩) | (at_builtin; refine wpList_pushK rfl _ _ 123 rfl w.heap.size 127 _ 6 32 Tryz.underlying123 Tryz.infoPart rfl (by decide) _ done.length (RP.row done) rfl hown (RP.cells .none) rfl wr.heap.size rfl rfl rfl (by unfold maxLen; omega) (by omega) (by omega) ?_; intro g cap w1 hg hown1 hb1 hk1; rw [RP.row_snoc] at hown1))
              go_ret
              refine ⟨hb.trans hb1, _, rfl, ?_⟩
              rw [HR.out]
              simpa using hown1
            · obtain ⟨k, hk⟩ : ∃ k : Nat, Lib.indexByte (p.drop (i + 1)) 93 = k := ⟨(Lib.indexByte (p.drop (i + 1)) 93).toNat, by omega⟩
              obtain ⟨hf1, hkl⟩ := hfe.2 k hk
              have HD := done_part (show partsA p = done ++ .set ((p.drop (i + 1)).take k) :: partsA (p.drop (i + k + 2)) from by have h := HS.out; rw [hdrop, h91, partsA_set hneg, hk, List.drop_drop] at h; rw [show i + k + 2 = i + 1 + (k + 1) from by omega]; exact h)
              rw [hf1] at hri
              have HRI := Lib.hid hri
              have ek : i + 1 + k - (i + 1) = k := by omega
              clear hri hfe hf1 HS hdrop hk hneg
              go_wp2_with (first | (go_at_call 125; refine (HRI.out _).mono ?_; rintro e w' ⟨rfl, rfl⟩) | ((try simp only [ek]); at_builtin; refine wpList_pushK rfl _ _ 123 rfl w.heap.size 127 _ 6 32 Tryz.underlying123 Tryz.infoPart rfl (by decide) _ done.length (RP.row done) rfl hown (RP.cells (.set ((p.drop (i + 1)).take k))) rfl wr.heap.size rfl rfl rfl (by unfold maxLen; omega) (by omega) (by omega) ?_; intro g cap w1 hg hown1 hb1 hk1; rw [RP.row_snoc] at hown1))
              go_roundw
              case rel => exact ⟨i + k + 2, done ++ [.set ((p.drop (i + 1)).take k)], by omega, by go_num, by simpa using hown1, hb.trans hb1, HD, by simp; omega⟩
              case measure => simp [intOf]; omega
          · have t91 : ((p[i].toNat : Int) == 91) = false := by rw [beq_eq_false_iff_ne]; intro h; exact h91 (byte_inj (by show _ = 91; omega))
            by_cases h92 : p[i] = 92
            · have t92 : ((p[i].toNat : Int) == 92) = true := by rw [h92]; rfl
              by_cases hlast : i + 1 < p.length
              · have hd2 := List.drop_eq_getElem_cons hlast
                have HD := done_part (show partsA p = done ++ .one p[i + 1] :: partsA (p.drop (i + 2)) from by have h := HS.out; rw [hdrop, hd2, h92, partsA_esc] at h; exact h)
                have hl2 : (i : Int) + 1 < (p.length : Int) := by omega
                have hl3 : decide ((i : Int) + 1 < (p.length : Int)) = true := by simpa using hl2
                clear HS hdrop hd2
                go_wp2_with (at_builtin; refine wpList_pushK rfl _ _ 123 rfl w.heap.size 127 _ 6 32 Tryz.underlying123 Tryz.infoPart rfl (by decide) _ done.length (RP.row done) rfl hown (RP.cells (.one p[i + 1])) rfl wr.heap.size rfl rfl rfl (by unfold maxLen; omega) (by omega) (by omega) ?_; intro g cap w1 hg hown1 hb1 hk1; rw [RP.row_snoc] at hown1)
                go_roundw
                case rel => exact ⟨i + 2, done ++ [.one p[i + 1]], by omega, by go_num, by simpa using hown1, hb.trans hb1, HD, by simp; omega⟩
                case measure => simp [intOf]; omega
              · have HD := done_part (show partsA p = done ++ .one 92 :: partsA (p.drop (i + 1)) from by have h := HS.out; rw [hdrop, partsA_lit h42 h63 h91 (by simp; omega), h92] at h; exact h)
                have hl2 : ¬ (i : Int) + 1 < (p.length : Int) := by omega
                have hl3 : decide ((i : Int) + 1 < (p.length : Int)) = false := by simpa using hl2
                clear HS hdrop
                go_wp2_with (at_builtin; refine wpList_pushK rfl _ _ 123 rfl w.heap.size 127 _ 6 32 Tryz.underlying123 Tryz.infoPart rfl (by decide) _ done.length (RP.row done) rfl hown (RP.cells (.one 92)) rfl wr.heap.size rfl rfl rfl (by unfold maxLen; omega) (by omega) (by omega) ?_; intro g cap w1 hg hown1 hb1 hk1; rw [RP.row_snoc] at hown1)
                go_roundw
                case rel => exact ⟨i + 1, done ++ [.one 92], by omega, by go_num, by simpa using hown1, hb.trans hb1, HD, by simp; omega⟩
                case measure => simp [intOf]; omega
            · have t92 : ((p[i].toNat : Int) == 92) = false := by rw [beq_eq_false_iff_ne]; intro h; exact h92 (byte_inj (by show _ = 92; omega))
              have HD := done_part (show partsA p = done ++ .one p[i] :: partsA (p.drop (i + 1)) from by have h := HS.out; rw [hdrop, partsA_lit h42 h63 h91 (by simp [h92])] at h; exact h)
              clear HS hdrop
              go_wp2_with (at_builtin; refine wpList_pushK rfl _ _ 123 rfl w.heap.size 127 _ 6 32 Tryz.underlying123 Tryz.infoPart rfl (by decide) _ done.length (RP.row done) rfl hown (RP.cells (.one p[i])) rfl wr.heap.size rfl rfl rfl (by unfold maxLen; omega) (by omega) (by omega) ?_; intro g cap w1 hg hown1 hb1 hk1; rw [RP.row_snoc] at hown1)
              go_roundw
              case rel => exact ⟨i + 1, done ++ [.one p[i]], by omega, by go_num, by simpa using hown1, hb.trans hb1, HD, by simp; omega⟩
              case measure => simp [intOf]; omega
    · obtain rfl : i = p.length := by omega
      go_wp2
      go_ret
      refine ⟨hb, _, rfl, ?_⟩
      have h := HS.out
      rw [List.drop_length, partsA_nil, List.append_nil] at h
      rw [h]
      exact hown
end Go.Proofs.YtjgdfgpnmmkjfaaGreatDoor

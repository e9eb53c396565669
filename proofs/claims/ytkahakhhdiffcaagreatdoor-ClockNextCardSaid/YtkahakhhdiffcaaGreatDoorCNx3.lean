/- A rule's field: 'fieldOf'. -/
import Derived.Test.YtkahakhhdiffcaaGreatDoorCNx2
namespace Go.Proofs.YtkahakhhdiffcaaGreatDoor
set_option linter.unusedVariables false
set_option linter.unusedSimpArgs false
open Go.RowKit
/-- A row of texts in block b. -/
structure SpR (w : World) (b : Nat) (l : List Bs) : Prop where
  lt : b < w.heap.size
  at_ : ∀ i (h : i < l.length), w.cell? ⟨b, i, none⟩ = some (.string ⟨l[i].toArray⟩)
theorem SpR.ms {w w' : World} {b mb : Nat} {l : List Bs} (h : SpR w b l) (hm : MS mb w w') (hb : b ≠ mb) : SpR w' b l := by
  have e := hm.block b h.lt hb
  refine ⟨Nat.lt_of_lt_of_le h.lt hm.size, fun i hi => ?_⟩
  have := h.at_ i hi
  unfold World.cell? at this ⊢
  rw [e]
  exact this
theorem split_len (sep : Bs) : ∀ (k : Nat) (s : Bs), ∀ x ∈ Lib.splitK sep 0 k s, x.length ≤ s.length
  | 0, s, x, hx => by simp [Lib.splitK] at hx; subst hx; exact Nat.le_refl _
  | k + 1, s, x, hx => by
    rw [Lib.splitK] at hx
    split at hx
    · simp at hx; subst hx; exact Nat.le_refl _
    · rcases List.mem_cons.1 hx with rfl | hx
      · simp; omega
      · have := split_len sep k _ x hx
        rw [List.length_drop] at this
        omega
theorem splitK_count (sep : Bs) : ∀ (k : Nat) (s : Bs), (Lib.splitK sep 0 k s).length ≤ k + 1
  | 0, s => by simp [Lib.splitK]
  | k + 1, s => by
    rw [Lib.splitK]
    split
    · simp
    · have := splitK_count sep k (s.drop ((Lib.index s sep).toNat + sep.length))
      rw [List.length_cons]
      omega
theorem split_count (s : Bs) (c : UInt8) : (Lib.split s [c]).length ≤ s.length + 1 := by
  have h1 := splitK_count [c] (Lib.count s [c]) s
  have h2 := Lib.count_one c s
  have h3 := List.count_le_length (a := c) (l := s)
  unfold Lib.split
  omega
theorem split_any (s : Bs) (c : UInt8) (hs : s.length ≤ 100000) (w : World) (hM : MaxIs w) :
    Calls Tryz.prog 18 #[.string ⟨s.toArray⟩, .string ⟨#[c]⟩] w fun e w' => e = .returned (.slice (some ⟨w.heap.size, 0, none⟩) (Lib.split s [c]).length (Lib.split s [c]).length) ∧ SpR w' w.heap.size (Lib.split s [c]) ∧ Below w.heap.size w w' := by
  obtain ⟨m, hm⟩ := hM
  refine (Tryz.strings_Split ⟨s.toArray⟩ ⟨#[c]⟩ m w (by show s.length < _; omega) hm (by show 1 ≤ 1; omega)).mono ?_
  rintro e w' ⟨rfl, rfl⟩
  have hd := Lib.splitB_data ⟨#[c]⟩ 0 (Lib.countB ⟨s.toArray⟩ ⟨#[c]⟩) ⟨s.toArray⟩
  have hl := Lib.splitB_all ⟨#[c]⟩ (by show 1 ≤ 1; omega) 0 _ ⟨s.toArray⟩ rfl
  have he : Lib.splitK [c] 0 (Lib.countB ⟨s.toArray⟩ ⟨#[c]⟩) s = Lib.split s [c] := rfl
  generalize hL : Lib.splitB ⟨#[c]⟩ 0 (Lib.countB ⟨s.toArray⟩ ⟨#[c]⟩) ⟨s.toArray⟩ = L at *
  have hd2 : L.map (·.data.toList) = Lib.split s [c] := hd
  rw [← hl, ← hd2, List.length_map]
  refine ⟨rfl, ⟨by simp, fun i hi => ?_⟩, (Below.refl _ w).alloc (Nat.le_refl _) _⟩
  have hi2 : i < L.length := by simpa using hi
  have hb := (MapKept.heap_alloc w (.cells (L.map Value.string).toArray 9)).1
  unfold World.cell?
  simp only [hb]
  simp [hi2]
theorem fld_many {many : Bool} {lo hi : Nat} {x : Bs} {r : List Bs} {F : Nat → Bool} (h : many = true) (hx : x.head? = some 42) : fieldsG (itemM many lo hi) (x :: r) F = none := by
  unfold fieldsG itemM
  simp [h, hx]
theorem fld_none {many : Bool} {lo hi : Nat} {x : Bs} {r : List Bs} {F : Nat → Bool} (h : ¬ (many = true ∧ x.head? = some 42)) (hx : itemP x lo hi = none) : fieldsG (itemM many lo hi) (x :: r) F = none := by
  unfold fieldsG itemM
  rw [if_neg (by simpa using h), hx]
theorem fld_some {many : Bool} {lo hi : Nat} {x : Bs} {r : List Bs} {F G : Nat → Bool} (h : ¬ (many = true ∧ x.head? = some 42)) (hx : itemP x lo hi = some G) : fieldsG (itemM many lo hi) (x :: r) F = fieldsG (itemM many lo hi) r (fun n => F n || G n) := by
  rw [fieldsG, itemM, if_neg (by simpa using h), hx]
theorem hasp_any (x : Bs) (W : World) : Calls Tryz.prog 47 #[.string ⟨x.toArray⟩, .string ⟨#[42]⟩] W fun e w' => e = .returned (.bool (decide (x.head? = some 42))) ∧ W = w' := by
  refine (Tryz.strings_HasPrefix ⟨x.toArray⟩ ⟨#[42]⟩ W).mono ?_
  rintro e w' ⟨rfl, rfl⟩
  refine ⟨?_, rfl⟩
  have : Lib.hasPrefix x [42] = decide (x.head? = some 42) := by
    unfold Lib.hasPrefix
    cases x with
    | nil => simp [List.isPrefixOf]
    | cons a r =>
      by_cases h : a = 42
      · subst h; simp [List.isPrefixOf]
      · simp [List.isPrefixOf, h, Ne.symm h]
  rw [← this]
/-- What 'fieldOf' leaves. -/
def FldR (o : Option (Nat → Bool)) (w : World) (e : Ending) (w' : World) : Prop :=
  Below w.heap.size w w' ∧ match o with
    | none => e = .returned (.tuple #[.map none, .bool false])
    | some F => ∃ mb, e = .returned (.tuple #[.map (some mb), .bool true]) ∧ w.heap.size ≤ mb ∧ FAt w' mb F
set_option maxRecDepth 100000 in
set_option maxHeartbeats 1600000 in
theorem fieldOf_star (lo hi : Nat) (hlh : lo ≤ hi) (hhi : hi ≤ 1000) (w : World) (hM : MaxIs w) :
    Calls Tryz.prog 19 #[.string ⟨#[42]⟩, .int .i64 lo, .int .i64 hi] w fun e w' => FldR (some (rangeF lo hi 1)) w e w' := by
  have hb : Below w.heap.size w (w.alloc (.map #[] 0)) := (Below.refl _ w).alloc (Nat.le_refl _) _
  have hM2 : MaxIs (w.alloc (.map #[] 0)) := by
    obtain ⟨m, hm⟩ := hM
    exact ⟨m, (hb.cell (p := ⟨0, 0, none⟩) (by have := Lib.lt_of_cell hm; exact this)).trans hm⟩
  have IT := Lib.hid (item_any w.heap.size (fun _ => false) [42, 47, 49] lo hi hlh hhi (by decide) (w.alloc (.map #[] 0)) (FAt.new w) hM2)
  have hip : itemP [42, 47, 49] lo hi = some (rangeF lo hi 1) := rfl
  rw [hip] at IT
  have HB := Lib.hid hb
  clear hb hip hM2 hM
  have hmk := fun W : World => run_makeMap (P := Tryz.prog) (w := W) 48
  go_enter Tryz.func19, Tryz.ntmps19
  go_wp2_with (go_at_call 46; refine IT.out.mono ?_; rintro e w1 ⟨rfl, hf, hms⟩; have H1 := Lib.hid (And.intro hf hms); clear hf hms)
  go_ret2
  exact ⟨HB.out.trans (H1.out.2.below (Nat.le_refl _) HB.out.size), w.heap.size, rfl, Nat.le_refl _, by have := H1.out.1; simpa [addF] using this⟩
set_option maxRecDepth 100000 in
set_option maxHeartbeats 3200000 in
theorem fieldOf_list (s : Bs) (h0 : s ≠ [42]) (hs : s.length ≤ 100000) (lo hi : Nat) (hlh : lo ≤ hi) (hhi : hi ≤ 1000) (w : World) (hM : MaxIs w) :
    Calls Tryz.prog 19 #[.string ⟨s.toArray⟩, .int .i64 lo, .int .i64 hi] w fun e w' => FldR (fieldsG (itemM (decide (1 < (Lib.split s [44]).length)) lo hi) (Lib.split s [44]) (fun _ => false)) w e w' := by
  have hb : Below w.heap.size w (w.alloc (.map #[] 0)) := (Below.refl _ w).alloc (Nat.le_refl _) _
  have HMX : Hid (∀ W, Below w.heap.size w W → MaxIs W) := fun W hB => by
    obtain ⟨m, hm⟩ := hM
    exact ⟨m, (hB.cell (p := ⟨0, 0, none⟩) (by have := Lib.lt_of_cell hm; exact this)).trans hm⟩
  have hne : (s == [42]) = false := by simpa using h0
  have hlen : ∀ x ∈ Lib.split s [44], x.length ≤ 100000 := fun x hx => by have := split_len [44] _ _ x hx; omega
  have hsp := split_any s 44 hs (w.alloc (.map #[] 0)) (HMX.out _ hb)
  have FN := Lib.hid (FAt.new w)
  have HB := Lib.hid hb
  have hsz : (w.alloc (.map #[] 0)).heap.size = w.heap.size + 1 := by simp
  have hcnt : (Lib.split s [44]).length ≤ 100001 := by have := split_count s 44; omega
  generalize Lib.split s [44] = l at *
  obtain ⟨L, hL⟩ : ∃ L, l.length = L := ⟨_, rfl⟩
  rw [hL] at hsp hcnt ⊢
  have HL := Lib.hid hL
  have HLEN := Lib.hid hlen
  have SP := Lib.hid hsp
  have HSZ := Lib.hid hsz
  obtain ⟨many, hmany⟩ : ∃ many, decide (1 < L) = many := ⟨_, rfl⟩
  have hmany2 : decide ((1 : Int) < (L : Int)) = many := by rw [← hmany, decide_eq_decide]; omega
  rw [hmany]
  have hmk := fun W : World => run_makeMap (P := Tryz.prog) (w := W) 48
  obtain ⟨res, hres⟩ : ∃ res, fieldsG (itemM many lo hi) l (fun _ => false) = res := ⟨_, rfl⟩
  rw [hres]
  have HRES := Lib.hid hres
  clear h0 hs hM hb hlen hsp hsz hL hmany hres
  go_enter Tryz.func19, Tryz.ntmps19
  go_wp2_with (go_at_call 18; refine SP.out.mono ?_; rintro e w1 ⟨rfl, hsr, hB⟩; have H1 : Hid (FAt w1 w.heap.size (fun _ => false) ∧ Below w.heap.size w w1 ∧ SpR w1 (w.heap.size + 1) l) := ⟨FN.out.below hB, HB.out.trans (hB.mono HB.out.size), by rw [← HSZ.out]; exact hsr⟩; clear hsr hB)
  go_loopw [11, 24] (fun _ i wr => ∃ (k : Nat) (F : Nat → Bool), k ≤ L ∧ i = .int .i64 (k : Int) ∧ FAt wr w.heap.size F ∧ MS w.heap.size w1 wr ∧ Hid (fieldsG (itemM many lo hi) (l.drop k) F = res)) (fun _ i _ => L - (intOf i).toNat)
  case atStart => exact ⟨0, fun _ => false, Nat.zero_le _, rfl, H1.out.1, MS.refl _ _, HRES.out⟩
  case round =>
    obtain ⟨k, F, hk, rfl, hf, hms, hr⟩ := hrel
    have HMS := Lib.hid hms
    have HBW : Hid (Below w.heap.size w wr) := H1.out.2.1.trans (hms.below (Nat.le_refl _) H1.out.2.1.size)
    by_cases hlt : k < L
    · have hkl : k < l.length := by have := HL.out; omega
      have hcell := (H1.out.2.2.ms hms (by omega)).at_ k hkl
      rw [List.drop_eq_getElem_cons hkl] at hr
      have hxl := HLEN.out l[k] (List.getElem_mem _)
      have t1 : decide ((k : Int) < (L : Int)) = true := by rw [decide_eq_true_eq]; omega
      have hw1 : IntKind.i64.wrap ((k : Int) + 1) = (k : Int) + 1 := IntWalk.i64_in _ (by omega)
      have i1 : k < L := hlt
      have i2 : (k : Int) < (L : Int) := by omega
      generalize l[k] = x at *
      have HP := Lib.hid (fun W => hasp_any x W)
      have IT := Lib.hid (item_any w.heap.size F x lo hi hlh hhi hxl wr hf (HMX.out _ HBW.out))
      by_cases hc : many = true ∧ x.head? = some 42
      · rw [fld_many hc.1 hc.2] at hr
        have hr2 : res = none := hr.symm
        subst hr2
        have e1 := hc.1
        subst e1
        rw [hc.2] at HP
        simp only [decide_true] at HP
        clear hc hr hf hms IT hkl
        go_wp2_with (go_at_call 47; refine (HP.out _).mono ?_; rintro e w2 ⟨rfl, rfl⟩)
        go_ret2
        exact ⟨HBW.out, rfl⟩
      · have hcm : (many && decide (x.head? = some 42)) = false := by
          rw [Bool.eq_false_iff]; intro h; simp at h; exact hc h
        obtain ⟨hd, hhd⟩ : ∃ hd, decide (x.head? = some 42) = hd := ⟨_, rfl⟩
        rw [hhd] at HP hcm
        cases hit : itemP x lo hi with
        | none =>
          rw [fld_none hc hit] at hr
          have hr2 : res = none := hr.symm
          subst hr2
          rw [hit] at IT
          clear hc hr hf hms hkl hit hhd
          cases many <;> cases hd <;> first | cases hcm | skip
          all_goals
            go_wp2_with (first | (go_at_call 47; refine (HP.out _).mono ?_; rintro e w2 ⟨rfl, rfl⟩) | (go_at_call 46; refine IT.out.mono ?_; rintro e w3 ⟨rfl, hf, hms⟩; have H3 := Lib.hid hms; clear hf hms))
            go_ret2
            exact ⟨HBW.out.trans (H3.out.below (Nat.le_refl _) HBW.out.size), rfl⟩
        | some G =>
          rw [fld_some hc hit] at hr
          have HR := Lib.hid hr
          rw [hit] at IT
          clear hc hr hf hms hkl hit hhd
          cases many <;> cases hd <;> first | cases hcm | skip
          all_goals
            go_wp2_with (first | (go_at_call 47; refine (HP.out _).mono ?_; rintro e w2 ⟨rfl, rfl⟩) | (go_at_call 46; refine IT.out.mono ?_; rintro e w3 ⟨rfl, hf, hms⟩; have H3 := Lib.hid (And.intro hf hms); clear hf hms))
            go_round
            case rel => exact ⟨k + 1, _, by omega, by go_num, H3.out.1, HMS.out.trans H3.out.2, HR.out⟩
            case measure => simp [intOf]; omega
    · obtain rfl : k = L := by omega
      have t1 : decide ((k : Int) < (k : Int)) = false := by rw [decide_eq_false_iff_not]; omega
      rw [List.drop_eq_nil_of_le (by have := HL.out; omega)] at hr
      have hr2 : res = some F := hr.symm
      subst hr2
      have HF := Lib.hid hf
      clear hr hf hms
      go_wp2_with fail
      go_ret2
      exact ⟨HBW.out, w.heap.size, rfl, Nat.le_refl _, HF.out⟩
theorem fieldOf_any (s : Bs) (hs : s.length ≤ 100000) (lo hi : Nat) (hlh : lo ≤ hi) (hhi : hi ≤ 1000) (w : World) (hM : MaxIs w) :
    Calls Tryz.prog 19 #[.string ⟨s.toArray⟩, .int .i64 lo, .int .i64 hi] w fun e w' => FldR (fieldP s lo hi) w e w' := by
  unfold fieldP
  by_cases h0 : s = [42]
  · subst h0
    rw [if_pos rfl]
    exact fieldOf_star lo hi hlh hhi w hM
  · rw [if_neg h0]
    exact fieldOf_list s h0 hs lo hi hlh hhi w hM
end Go.Proofs.YtkahakhhdiffcaaGreatDoor

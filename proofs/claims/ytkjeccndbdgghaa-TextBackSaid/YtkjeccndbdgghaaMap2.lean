/- 'Map' of package text: what the plain function 'mapAll' makes, or ErrLimit. -/
import Derived.Test.YtkjeccndbdgghaaMap1
import Derived.Test.YtkjeccndbdgghaaRef1
import Derived.Test.YtkjeccndbdgghaaBuilder
import Derived.Deep.LoopGhost
import Derived.Deep.RegionHeld3
import Derived.Deep.QuietTactic
import Derived.BigQuiet
namespace Go.Proofs.Ytkjeccndbdgghaa
open Go.RowKit

/-- A slice of texts that lies below block B. -/
def SRow (B : Nat) (w : World) (ao : Option Addr) (ss : List Bs) : Prop := ss ≠ [] → ∃ b off, ao = some ⟨b, off, none⟩ ∧ b < B ∧ ∀ i (h : i < ss.length), w.cell? ⟨b, off + i, none⟩ = some (.string ⟨ss[i].toArray⟩)

theorem SRow.below {B B' : Nat} {w w' : World} {ao : Option Addr} {ss : List Bs} (h : SRow B w ao ss) (hb : Below B' w w') (hB : B ≤ B') : SRow B w' ao ss := by
  intro hne
  obtain ⟨b, off, h1, h2, h3⟩ := h hne
  exact ⟨b, off, h1, h2, fun i hi => (hb.cell (p := ⟨b, off + i, none⟩) (by show b < B'; omega)).trans (h3 i hi)⟩

theorem SRow.mono {B B' : Nat} {w : World} {ao : Option Addr} {ss : List Bs} (h : SRow B w ao ss) (hB : B ≤ B') : SRow B' w ao ss := by
  intro hne
  obtain ⟨b, off, h1, h2, h3⟩ := h hne
  exact ⟨b, off, h1, by omega, h3⟩

theorem pick_step_nil {fold : Bool} {rest : Bs} {ss : List Bs} {k : Nat} (h1 : k + 1 < ss.length) (h : ss[k] = [] ∨ begins rest ss[k] fold = false) : pick fold rest (ss.drop k) = pick fold rest (ss.drop (k + 2)) := by
  rw [List.drop_eq_getElem_cons (by omega), List.drop_eq_getElem_cons h1, pick]
  rcases h with h | h <;> simp [h]
theorem pick_step_hit {fold : Bool} {rest : Bs} {ss : List Bs} {k : Nat} (h1 : k + 1 < ss.length) (h : ss[k] ≠ []) (h' : begins rest ss[k] fold = true) : pick fold rest (ss.drop k) = some (ss[k], ss[k + 1]) := by
  rw [List.drop_eq_getElem_cons (by omega), List.drop_eq_getElem_cons h1, pick]
  simp [h, h']

set_option maxRecDepth 100000 in
set_option maxHeartbeats 1600000 in
theorem Map_any (s : Bs) (ss : List Bs) (fold : Bool) (ao : Option Addr) (cap : Nat) (hs : s.length ≤ 1000000) (hss : ss.length ≤ 1000000) (hp : ss.length % 2 = 0) (hl : ∀ x ∈ ss, x.length ≤ 1000000) (w : World) (hR : SRow w.heap.size w ao ss) :
    Calls Try.prog 11 #[.string ⟨s.toArray⟩, .slice ao ss.length cap, .bool fold] w fun e w' => e = .returned (.tuple #[.string ⟨(lim (mapAll fold ss s)).1.toArray⟩, .int .i64 (lim (mapAll fold ss s)).2]) ∧ Below w.heap.size w w' := by
  have HR := Lib.hid hR
  have HL := Lib.hid hl
  clear hR hl
  have hp1 : ((ss.length : Int) % 2 == 1) = false := by rw [beq_eq_false_iff_ne]; omega
  go_enter Try.func11, Try.ntmps11
  go_wp2_with fail
  go_step3
  go_wp2_with fail
  go_step3
  go_wp2_with fail
  go_loopg [9] s.length (fun g v wr => ∃ (i : Nat) (acc : Bs), i + g = s.length ∧ v = .int .i64 i ∧ IsB w.heap.size w.heap.size (Lib.byteCells acc) wr ∧ Below w.heap.size w wr ∧ Hid (acc ++ mapAll fold ss (s.drop i) = mapAll fold ss s) ∧ acc.length ≤ 3000000)
  case atStart => exact ⟨0, [], by omega, rfl, IsB.new w, (Below.refl _ _).alloc (Nat.le_refl _) _, by simp [Hid], by simp⟩
  case round =>
    obtain ⟨i, acc, hig, rfl, hB, hb, HI, hacc⟩ := hrel
    have hlen := Try.Builder_Len_f _ _ _ _ hB
    have hbl : (Lib.byteCells acc).length = acc.length := byteCells_len acc
    rw [hbl] at hlen
    have Hlen := Lib.hid (hlen.mono (R' := fun e w' => e = .returned (.int .i64 acc.length) ∧ wr = w') fun e w' h => ⟨h.1, h.2.symm⟩)
    clear hlen hbl
    by_cases hgo : i < s.length ∧ acc.length ≤ 65536
    · obtain ⟨hi, ha⟩ := hgo
      have hda : decide ((acc.length : Int) ≤ 65536) = true := by simp; omega
      go_wp2_with (go_at_call 48; refine Hlen.out.mono ?_; rintro e w' ⟨rfl, rfl⟩)
      obtain ⟨wo, rfl⟩ : ∃ wo : World, wo = wr := ⟨_, rfl⟩
      obtain ⟨go, rfl⟩ : ∃ go : Nat, go = gk := ⟨_, rfl⟩
      clear Hlen
      go_loopg [9, 10] ss.length (fun g2 u v wy => ∃ k : Nat, k % 2 = 0 ∧ k + g2 = ss.length ∧ u = .int .i64 i ∧ v = .int .i64 k ∧ IsB w.heap.size w.heap.size (Lib.byteCells acc) wy ∧ Below w.heap.size w wy ∧ Hid (pick fold (s.drop i) (ss.drop k) = pick fold (s.drop i) ss))
      case atStart => exact ⟨0, rfl, by omega, rfl, rfl, hB, hb, rfl⟩
      case round =>
        obtain ⟨k, hk2, hkg, rfl, rfl, hB2, hb2, HP⟩ := hrel
        clear hB hb
        have hsz := hb2.size
        by_cases hk : k < ss.length
        · have hk1 : k + 1 < ss.length := by omega
          obtain ⟨b, off, rfl, hbb, hcells⟩ := HR.out (by intro h; rw [h] at hk; simp at hk)
          have hc0 : wr.cell? ⟨b, off + k, none⟩ = some (.string ⟨ss[k].toArray⟩) := (hb2.cell (p := ⟨b, off + k, none⟩) hbb).trans (hcells k hk)
          have hc1 : wr.cell? ⟨b, off + (k + 1), none⟩ = some (.string ⟨ss[k + 1].toArray⟩) := (hb2.cell (p := ⟨b, off + (k + 1), none⟩) hbb).trans (hcells (k + 1) hk1)
          have HC := Lib.hid hcells
          clear hcells
          by_cases hne : ss[k] = []
          · go_wp2_with fail
            go_quiet (fail)
            go_wp2_with fail
            go_roundg (gk - 2)
            case measure => omega
            case rel =>
              refine ⟨k + 2, by omega, by omega, rfl, by go_num, hB2.below (below_drewN (Below.refl _ _) _), below_drewN hb2 _, Lib.hid ?_⟩
              rw [← pick_step_nil hk1 (.inl hne)]; exact HP.out
          · obtain ⟨key, hkey⟩ : ∃ key, key = ss[k] := ⟨_, rfl⟩
            obtain ⟨val, hval⟩ : ∃ val, val = ss[k + 1] := ⟨_, rfl⟩
            have hll : key.length ≤ 1000000 := by rw [hkey]; exact HL.out _ (List.getElem_mem hk)
            have hlv : val.length ≤ 1000000 := by rw [hval]; exact HL.out _ (List.getElem_mem hk1)
            have hbeg := begins_any (s.drop i) key fold (by simp; omega) hll
            have Hbeg := Lib.hid hbeg
            have HPK : Hid (begins (s.drop i) key fold = true → pick fold (s.drop i) ss = some (key, val)) := fun h => by rw [← HP.out, pick_step_hit hk1 hne (by rw [← hkey]; exact h), hkey, hval]
            have HPN : Hid (begins (s.drop i) key fold = false → pick fold (s.drop i) (ss.drop (k + 2)) = pick fold (s.drop i) ss) := fun h => by rw [← pick_step_nil hk1 (.inr (by rw [← hkey]; exact h))]; exact HP.out
            rw [← hkey] at hc0 hne
            rw [← hval] at hc1
            have hke : key.isEmpty = false := by cases key with | nil => exact absurd rfl hne | cons _ _ => rfl
            have hk0 : 1 ≤ key.length := by cases key with | nil => exact absurd rfl hne | cons _ _ => simp
            clear hbeg hkey hval HP
            have e1 : (i : Int) ≤ (s.length : Int) := by omega
            have e2 : (k : Int) < (ss.length : Int) := by omega
            by_cases hbg : begins (s.drop i) key fold = true
            · have HF := Lib.hid (HPK.out hbg)
              have hlk : key.length ≤ (s.drop i).length := by simp only [begins, Bool.and_eq_true, decide_eq_true_eq] at hbg; exact hbg.1
              have hlk' : i + key.length ≤ s.length := by simp at hlk; omega
              clear hlk HPK HPN
              go_wp2_with fail
              go_region_held3 (fun w' => w'.cell? ⟨b, off + k, none⟩ = some (.string ⟨key.toArray⟩)) (first | go_keep | (exact (hbx.cell (p := ⟨b, off + k, none⟩) (by simp; omega)).trans hc0)) ((go_at_call 49; refine (Hbeg.out _).mono ?_; rintro e w2 ⟨rfl, hbx⟩))
              have hbx' : Below wr.heap.size wr w2 := (Below.refl wr.heap.size wr).drew.trans hbx
              have hB3 := hB2.below hbx'
              have hd0 := (hbx'.cell (p := ⟨b, off + k, none⟩) (by show b < _; omega)).trans hc0
              have hd1 := (hbx'.cell (p := ⟨b, off + (k + 1), none⟩) (by show b < _; omega)).trans hc1
              have hb3 := hb2.trans (hbx'.mono hsz)
              have hsz3 := hb3.size
              clear hbx hbx' hc0 hc1 hB2 hb2
              go_wp2_with (go_at_call 50; refine (WriteString_any _ _ _ _ _ hB3 (by rw [byteCells_len]; simp [ByteArray.size]; omega) hsz3).mono ?_; rintro e w4 ⟨rfl, hB5, hb5, hk5⟩; have hd5 := (hb5.cell (p := ⟨b, off + k, none⟩) hbb).trans hd0)
              go_roundg (go - key.length)
              case measure => omega
              case rel =>
                refine ⟨i + key.length, acc ++ val, by omega, by go_num, .inr ?_, hb3.trans hb5, Lib.hid ?_, by simp; omega⟩
                · rw [show Lib.byteCells (acc ++ val) = Lib.byteCells acc ++ Lib.strCells ⟨val.toArray⟩ from by simp [Lib.byteCells, Lib.strCells]]; exact hB5
                · have h := HI.out
                  rw [mapAll_some HF.out, List.drop_drop] at h
                  rw [← h, List.append_assoc]
            · have hbg : begins (s.drop i) key fold = false := by simpa using hbg
              have HF := Lib.hid (HPN.out hbg)
              clear HPK HPN
              go_wp2_with fail
              go_region_held3 (fun w' => w'.cell? ⟨b, off + k, none⟩ = some (.string ⟨key.toArray⟩)) (first | go_keep | (exact (hbx.cell (p := ⟨b, off + k, none⟩) (by simp; omega)).trans hc0)) ((go_at_call 49; refine (Hbeg.out _).mono ?_; rintro e w2 ⟨rfl, hbx⟩))
              have hbx' : Below wr.heap.size wr w2 := (Below.refl wr.heap.size wr).drew.trans hbx
              have hB3 := hB2.below hbx'
              have hb3 := hb2.trans (hbx'.mono hsz)
              clear hbx hbx' hc0 hc1 hB2 hb2
              go_wp2_with fail
              go_roundg (gk - 2)
              case measure => omega
              case rel => exact ⟨k + 2, by omega, by omega, rfl, by go_num, hB3, hb3, HF⟩
        · have hpn : pick fold (s.drop i) ss = none := by
            rw [← HP.out, List.drop_eq_nil_of_le (show ss.length ≤ k by omega)]; simp [pick]
          have HN := Lib.hid hpn
          clear hpn
          have h255 := byte_lt s[i]
          go_wp2_with (first | (go_at_call 51; refine (WriteByte_any _ _ _ _ _ hB2 (by rw [byteCells_len]; omega) hsz).mono ?_; rintro e w2 ⟨rfl, hB3, hb3, hk3⟩))
          go_roundg (go - 1)
          case measure => omega
          case rel =>
            refine ⟨i + 1, acc ++ [s[i]], by omega, by go_num, .inr (by rw [← byteCells_snoc]; exact hB3), hb2.trans hb3, Lib.hid ?_, by simp; omega⟩
            have h := HI.out
            rw [List.drop_eq_getElem_cons hi] at h HN
            rw [mapAll_none HN.out] at h
            rw [← h]; simp
    · by_cases hi : i < s.length
      · have hres : lim (mapAll fold ss s) = lim acc := by
          have := congrArg List.length HI.out
          rw [List.length_append] at this
          rw [lim, lim, if_neg (by omega), if_neg (by omega)]
        have Hres := Lib.hid hres
        clear hres
        go_wp2_with (first | (go_at_call 48; refine Hlen.out.mono ?_; rintro e w' ⟨rfl, rfl⟩) | (go_at_call 53; refine (Try.Builder_String_any_f _ _ _ _ hB hb.size).mono ?_; rintro e w2 ⟨rfl, hB2, hb2⟩)  | (go_at_call 52; refine (limited_any acc (by omega) _).mono ?_; rintro e w3 ⟨rfl, rfl⟩))
        rw [Exit.noGoto_ret]
        go_ret2
        exact ⟨by rw [Hres.out]; rfl, hb.trans hb2⟩
      · have hres : mapAll fold ss s = acc := by
          have h := HI.out
          rw [List.drop_eq_nil_of_le (by omega), mapAll_nil, List.append_nil] at h
          exact h.symm
        have Hres := Lib.hid hres
        clear hres
        go_wp2_with (first | (go_at_call 48; refine Hlen.out.mono ?_; rintro e w' ⟨rfl, rfl⟩) | (go_at_call 53; refine (Try.Builder_String_any_f _ _ _ _ hB hb.size).mono ?_; rintro e w2 ⟨rfl, hB2, hb2⟩)  | (go_at_call 52; refine (limited_any acc (by omega) _).mono ?_; rintro e w3 ⟨rfl, rfl⟩))
        rw [Exit.noGoto_ret]
        go_ret2
        exact ⟨by rw [Hres.out]; rfl, hb.trans hb2⟩
end Go.Proofs.Ytkjeccndbdgghaa

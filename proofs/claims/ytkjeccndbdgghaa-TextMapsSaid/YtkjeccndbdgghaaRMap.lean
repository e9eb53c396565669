/- 'Map' of threadbareref01. -/
import Derived.Test.YtkjeccndbdgghaaMap2
import Derived.Deep.RegionWith
namespace Go.Proofs.Ytkjeccndbdgghaa
open Go.RowKit

theorem lim_big {acc put rest all : Bs} (h : acc ++ put ++ rest = all) (hb : 65536 < acc.length + put.length) : lim all = ([], 4) := by
  rw [lim, if_neg]
  rw [← h]; simp; omega

set_option maxRecDepth 100000 in
set_option maxHeartbeats 3200000 in
theorem rMap_any (s : Bs) (ss : List Bs) (fold : Bool) (ao : Option Addr) (cap : Nat) (hs : s.length ≤ 1000000) (hss : ss.length ≤ 1000000) (hp : ss.length % 2 = 0) (hl : ∀ x ∈ ss, x.length ≤ 1000000) (w : World) (hR : SRow w.heap.size w ao ss) :
    Calls Try.prog 12 #[.string ⟨s.toArray⟩, .slice ao ss.length cap, .bool fold] w fun e w' => e = .returned (.tuple #[.string ⟨(lim (mapAll fold ss s)).1.toArray⟩, .int .i64 (lim (mapAll fold ss s)).2]) ∧ Below w.heap.size w w' := by
  have HR := Lib.hid hR
  have HL := Lib.hid hl
  clear hR hl
  have hp1 : ((ss.length : Int) % 2 != 0) = false := by rw [bne_eq_false_iff_eq]; omega
  go_enter Try.func12, Try.ntmps12
  go_wp2_with fail
  go_loopg [8, 9] s.length (fun g u v wr => ∃ (i : Nat) (acc : Bs), i + g = s.length ∧ u = .string ⟨acc.toArray⟩ ∧ v = .int .i64 i ∧ Below w.heap.size w wr ∧ Hid (acc ++ mapAll fold ss (s.drop i) = mapAll fold ss s) ∧ acc.length ≤ 65536)
  case atStart => exact ⟨0, [], by omega, rfl, rfl, Below.refl _ _, by simp [Hid], by simp⟩
  case round =>
    obtain ⟨i, acc, hig, rfl, rfl, hb, HI, hacc⟩ := hrel
    by_cases hi : i < s.length
    · go_wp2_with fail
      obtain ⟨wo, rfl⟩ : ∃ wo : World, wo = wr := ⟨_, rfl⟩
      obtain ⟨go, rfl⟩ : ∃ go : Nat, go = gk := ⟨_, rfl⟩
      go_loopg [10, 11, 12] ss.length (fun g2 v10 v11 v wy => ∃ k : Nat, k % 2 = 0 ∧ k + g2 = ss.length ∧ v10 = .int .i64 1 ∧ v11 = .string ⟨((s.drop i).take 1).toArray⟩ ∧ v = .int .i64 k ∧ Below w.heap.size w wy ∧ Hid (pick fold (s.drop i) (ss.drop k) = pick fold (s.drop i) ss))
      case atStart => exact ⟨0, rfl, by omega, rfl, rfl, rfl, hb, rfl⟩
      case round =>
        obtain ⟨k, hk2, hkg, rfl, rfl, rfl, hb2, HP⟩ := hrel
        clear hb
        have hsz := hb2.size
        by_cases hk : k < ss.length
        · have hk1 : k + 1 < ss.length := by omega
          obtain ⟨b, off, rfl, hbb, hcells⟩ := HR.out (by intro h; rw [h] at hk; simp at hk)
          have hc0 : wr.cell? ⟨b, off + k, none⟩ = some (.string ⟨ss[k].toArray⟩) := (hb2.cell (p := ⟨b, off + k, none⟩) hbb).trans (hcells k hk)
          have hc1 : wr.cell? ⟨b, off + (k + 1), none⟩ = some (.string ⟨ss[k + 1].toArray⟩) := (hb2.cell (p := ⟨b, off + (k + 1), none⟩) hbb).trans (hcells (k + 1) hk1)
          have HC := Lib.hid hcells
          clear hcells
          obtain ⟨key, hkey⟩ : ∃ key, key = ss[k] := ⟨_, rfl⟩
          obtain ⟨val, hval⟩ : ∃ val, val = ss[k + 1] := ⟨_, rfl⟩
          have hll : key.length ≤ 1000000 := by rw [hkey]; exact HL.out _ (List.getElem_mem hk)
          have hlv : val.length ≤ 1000000 := by rw [hval]; exact HL.out _ (List.getElem_mem hk1)
          have HPK : Hid (key ≠ [] → begins (s.drop i) key fold = true → pick fold (s.drop i) ss = some (key, val)) := fun hne h => by rw [← HP.out, pick_step_hit hk1 (by rw [← hkey]; exact hne) (by rw [← hkey]; exact h), hkey, hval]
          have HPN : Hid (key = [] ∨ begins (s.drop i) key fold = false → pick fold (s.drop i) (ss.drop (k + 2)) = pick fold (s.drop i) ss) := fun h => by rw [← pick_step_nil hk1 (by rw [← hkey]; exact h)]; exact HP.out
          rw [← hkey] at hc0
          rw [← hval] at hc1
          clear hkey hval HP
          by_cases hke : key = []
          · have HF := Lib.hid (HPN.out (.inl hke))
            clear HPN HPK
            subst hke
            go_wp2_with fail
            go_roundg (gk - 2)
            case measure => omega
            case rel => exact ⟨k + 2, by omega, by omega, rfl, rfl, by go_num, hb2, HF⟩
          · have hke' : key.isEmpty = false := by cases key with | nil => exact absurd rfl hke | cons _ _ => rfl
            have hk0 : 1 ≤ key.length := by cases key with | nil => exact absurd rfl hke | cons _ _ => simp
            by_cases hlong : s.length < i + key.length
            · have HF := Lib.hid (HPN.out (.inr (by simp [begins]; omega)))
              clear HPN HPK
              go_wp2_with fail
              go_roundg (gk - 2)
              case measure => omega
              case rel => exact ⟨k + 2, by omega, by omega, rfl, rfl, by go_num, hb2, HF⟩
            · by_cases heq : (s.drop i).take key.length = key
              · have HF := Lib.hid (HPK.out hke (by simp [begins, heq]; omega))
                have heq' : ((s.drop i).take key.length == key) = true := by simpa using heq
                have HE := Lib.hid heq
                clear HPN HPK heq
                have HA : Hid (acc ++ val ++ mapAll fold ss (s.drop (i + key.length)) = mapAll fold ss s) := by
                  show _ = _
                  have h := HI.out
                  rw [mapAll_some HF.out, List.drop_drop] at h
                  rw [← h, List.append_assoc]
                have hlk : i + key.length ≤ s.length := by omega
                clear HI
                by_cases hbig : 65536 < acc.length + (val).length
                · have HB := Lib.hid (lim_big HA.out hbig)
                  clear HA
                  go_wp2_with fail
                  go_ret2
                  exact ⟨by rw [HB.out]; rfl, hb2⟩
                · go_wp2_with fail
                  go_roundg (go - key.length)
                  case measure => omega
                  case rel => exact ⟨i + key.length, acc ++ val, by omega, rfl, by go_num, hb2, HA, by simp at hbig ⊢; omega⟩
              · have heq' : ((s.drop i).take key.length == key) = false := by simpa using heq
                have HE := Lib.hid heq
                clear heq
                cases fold with
                | false =>
                  have HF := Lib.hid (HPN.out (.inr (by simp [begins, HE.out])))
                  clear HPN HPK
                  go_wp2_with fail
                  go_roundg (gk - 2)
                  case measure => omega
                  case rel => exact ⟨k + 2, by omega, by omega, rfl, rfl, by go_num, hb2, HF⟩
                | true =>
                  have hl1 := rLower_any ((s.drop i).take key.length) (by simp; omega)
                  have hl2 := rLower_any key hll
                  have HL1 := Lib.hid hl1
                  have HL2 := Lib.hid hl2
                  clear hl1 hl2
                  have hlk : i + key.length ≤ s.length := by omega
                  by_cases hlo : lowS ((s.drop i).take key.length) = lowS key
                  · have HF := Lib.hid (HPK.out hke (by simp [begins, hlo]; omega))
                    have hlo' : (lowS ((s.drop i).take key.length) == lowS key) = true := by simpa using hlo
                    have HO := Lib.hid hlo
                    clear hlo HPK HPN
                    have HA : Hid (acc ++ val ++ mapAll true ss (s.drop (i + key.length)) = mapAll true ss s) := by
                      show _ = _
                      have h := HI.out
                      rw [mapAll_some HF.out, List.drop_drop] at h
                      rw [← h, List.append_assoc]
                    clear HI
                    by_cases hbig : 65536 < acc.length + (val).length
                    · have HB := Lib.hid (lim_big HA.out hbig)
                      clear HA
                      go_wp2_with (first | (go_at_call_of 20 (Value.string ⟨key.toArray⟩); refine (HL2.out _).mono ?_; rintro e w3 ⟨rfl, hb3⟩; have hc3 := (hb3.cell (p := ⟨b, off + (k + 1), none⟩) (by have := hb2x.size; show b < _; omega)).trans hc2) | (go_at_call 20; refine (HL1.out _).mono ?_; rintro e w2 ⟨rfl, hb2x⟩; have hc2 := (hb2x.cell (p := ⟨b, off + (k + 1), none⟩) (by show b < _; omega)).trans hc1))
                      go_ret2
                      exact ⟨by rw [HB.out]; rfl, hb2.trans ((hb2x.mono hsz).trans (hb3.mono (by have := hb2x.size; omega)))⟩
                    · go_wp2_with (first | (go_at_call_of 20 (Value.string ⟨key.toArray⟩); refine (HL2.out _).mono ?_; rintro e w3 ⟨rfl, hb3⟩; have hc3 := (hb3.cell (p := ⟨b, off + (k + 1), none⟩) (by have := hb2x.size; show b < _; omega)).trans hc2) | (go_at_call 20; refine (HL1.out _).mono ?_; rintro e w2 ⟨rfl, hb2x⟩; have hc2 := (hb2x.cell (p := ⟨b, off + (k + 1), none⟩) (by show b < _; omega)).trans hc1))
                      go_roundg (go - key.length)
                      case measure => omega
                      case rel => exact ⟨i + key.length, acc ++ val, by omega, rfl, by go_num, hb2.trans ((hb2x.mono hsz).trans (hb3.mono (by have := hb2x.size; omega))), HA, by simp at hbig ⊢; omega⟩
                  · have HF := Lib.hid (HPN.out (.inr (by simp [begins, HE.out, hlo])))
                    have hlo' : (lowS ((s.drop i).take key.length) == lowS key) = false := by simpa using hlo
                    have HO := Lib.hid hlo
                    clear hlo HPK HPN
                    go_wp2_with (first | (go_at_call_of 20 (Value.string ⟨key.toArray⟩); refine (HL2.out _).mono ?_; rintro e w3 ⟨rfl, hb3⟩) | (go_at_call 20; refine (HL1.out _).mono ?_; rintro e w2 ⟨rfl, hb2x⟩))
                    go_roundg (gk - 2)
                    case measure => omega
                    case rel => exact ⟨k + 2, by omega, by omega, rfl, rfl, by go_num, hb2.trans ((hb2x.mono hsz).trans (hb3.mono (by have := hb2x.size; omega))), HF⟩
        · have hpn : pick fold (s.drop i) ss = none := by
            rw [← HP.out, List.drop_eq_nil_of_le (show ss.length ≤ k by omega)]; simp [pick]
          have HA : Hid (acc ++ (s.drop i).take 1 ++ mapAll fold ss (s.drop (i + 1)) = mapAll fold ss s) := by
            have h := HI.out
            rw [List.drop_eq_getElem_cons hi] at h hpn
            rw [mapAll_none hpn] at h
            show _ = _
            rw [← h, show (s.drop i).take 1 = [s[i]] from by rw [List.drop_eq_getElem_cons hi]; rfl, List.append_assoc]; rfl
          have hl1 : ((s.drop i).take 1).length = 1 := by simp; omega
          have HL1 := Lib.hid hl1
          clear hpn HP HI hl1
          by_cases hbig : acc.length = 65536
          · have HB := Lib.hid (lim_big HA.out (by rw [HL1.out]; omega))
            clear HA
            go_wp2_with fail
            go_ret2
            exact ⟨by rw [HB.out]; rfl, hb2⟩
          · go_wp2_with fail
            go_roundg (go - 1)
            case measure => omega
            case rel => exact ⟨i + 1, acc ++ (s.drop i).take 1, by omega, rfl, by go_num, hb2, HA, by rw [List.length_append, HL1.out]; omega⟩
    · have hres : mapAll fold ss s = acc := by
        have h := HI.out
        rw [List.drop_eq_nil_of_le (by omega), mapAll_nil, List.append_nil] at h
        exact h.symm
      have Hres := Lib.hid hres
      clear hres
      go_wp2_with (go_at_call 54; refine (rlong_any acc (by omega) _).mono ?_; rintro e w3 ⟨rfl, rfl⟩)
      go_ret2
      exact ⟨by rw [Hres.out]; rfl, hb⟩
end Go.Proofs.Ytkjeccndbdgghaa

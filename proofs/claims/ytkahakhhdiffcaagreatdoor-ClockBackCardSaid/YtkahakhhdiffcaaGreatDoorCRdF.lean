/- The program's Read. Printed by mkCRdF.py. -/
import Derived.Test.YtkahakhhdiffcaaGreatDoorCRdT
import Derived.Test.YtkahakhhdiffcaaGreatDoorCRd7
import Derived.Maps.RangeWalk
import Derived.Deep.LoopGhost
namespace Go.Proofs.YtkahakhhdiffcaaGreatDoor
set_option linter.unusedVariables false
set_option linter.unusedSimpArgs false
open Go.RowKit Go.Shelf
open Go.ChangeMaps (setBlock)
theorem letter_field0 (a b c : Value) (W : World) : (Instr.field 83 (.agg #[a, b, c]) 0).run Tryz.prog W = .ok a W := by kernel_rfl
/-- A letter's function, called. -/
def FnPost (c t : Int) (W : World) (e : Ending) (w' : World) : Prop := e = .returned (.int .i64 (fnL c t)) ∧ Below W.heap.size W w'
theorem letter_call (mb : Nat) (W : World) (d : UInt8) (v : Value) (hv : LetterV mb W (d.toNat : Int) v) (t : Int) (ht : -62135596800 ≤ t) (ht2 : t ≤ 253402300799) :
    (∃ F dig nm, v = .agg #[.func (.func F) #[] #[], dig, nm] ∧ (F = 72 ∨ F = 22 ∨ F = 73 ∨ F = 75 ∨ F = 79) ∧ Calls Tryz.prog F #[.int .i64 t] W (FnPost (d.toNat : Int) t W)) ∨
    ∃ a dig nm, v = .agg #[.func (.func 62) #[] #[.pointer (some ⟨a, 0, none⟩)], dig, nm] ∧ Calls Tryz.prog 62 #[.int .i64 t, .pointer (some ⟨a, 0, none⟩)] W (FnPost (d.toNat : Int) t W) := by
  obtain ⟨i, f, n, h1, rfl, hf, hn⟩ := hv
  have hk := (kind_of d h1).1
  have hfn : fnL (d.toNat : Int) t = fnC i.F t := by unfold fnL; rw [h1]
  have hp : FnPost (d.toNat : Int) t W = fun e w' => e = .returned (.int .i64 (fnC i.F t)) ∧ Below W.heap.size W w' := by unfold FnPost; rw [hfn]
  rw [hp]
  clear hp hfn h1 hn
  obtain ⟨direct, F, dig, names⟩ := i
  simp only [Kind] at hk hf ⊢
  have hdir : direct = true → (F = 72 ∨ F = 22 ∨ F = 73 ∨ F = 75 ∨ F = 79) := by
    intro hd
    rcases hk with h | h | h | h | h
    · rw [h.1] at hd; cases hd
    · rw [h.1] at hd; cases hd
    · rw [h.1] at hd; cases hd
    · exact h.2.1
    · exact .inr (.inl h.2.1)
  have hind : direct = false → isOf F := by
    intro hd
    rcases hk with h | h | h | h | h
    · exact h.2.1
    · rw [h.2.1]; unfold isOf; simp
    · rw [h.2.1]; unfold isOf; simp
    · rw [h.1] at hd; cases hd
    · rw [h.1] at hd; cases hd
  cases direct with
  | false =>
    obtain ⟨a, _, rfl, hc⟩ := hf
    exact .inr ⟨a, _, _, rfl, of_call F (hind rfl) t ht (by omega) a W hc⟩
  | true =>
    obtain rfl : f = .func (.func F) #[] #[] := hf
    refine .inl ⟨F, _, _, rfl, hdir rfl, ?_⟩
    rcases hdir rfl with rfl | rfl | rfl | rfl | rfl
    · exact yearday_any t ht (by omega) W
    · refine (weekday_any t ht (by omega) W).mono ?_
      rintro e w' ⟨rfl, m, rfl⟩
      exact ⟨rfl, below_drewN (Below.refl _ _) m⟩
    · exact l11_any t ht ht2 W
    · exact l12_any t ht ht2 W
    · exact l13_any t W
/-- What an entry of the map says of the time. -/
def EntOk (t : Int) (x : MapEntry) : Prop := ∀ k v, x.key = encU k → x.val = .int .i64 v → fnL k t = v
theorem born_one {es : Array MapEntry} {x y : MapEntry} (hs : (es.toList.map (·.born)).Pairwise (· ≠ ·)) (hx : x ∈ es.toList) (hy : y ∈ es.toList) (hb : y.born = x.born) : y = x := by
  obtain ⟨i1, hi1, e1⟩ := List.getElem_of_mem hy
  obtain ⟨i2, hi2, e2⟩ := List.getElem_of_mem hx
  have hnd := List.pairwise_iff_getElem.1 hs
  rcases Nat.lt_trichotomy i1 i2 with hlt | heq | hlt
  · exact absurd (show (es.toList.map (·.born))[i1]'(by simpa using hi1) = (es.toList.map (·.born))[i2]'(by simpa using hi2) from by rw [List.getElem_map, List.getElem_map, e1, e2, hb]) (hnd i1 i2 (by simpa using hi1) (by simpa using hi2) hlt)
  · subst heq; rw [← e1, ← e2]
  · exact absurd (show (es.toList.map (·.born))[i2]'(by simpa using hi2) = (es.toList.map (·.born))[i1]'(by simpa using hi1) from by rw [List.getElem_map, List.getElem_map, e1, e2, hb]) (hnd i2 i1 (by simpa using hi2) (by simpa using hi1) hlt)
open Classical in
theorem rdP_none {s form : Bs} (h : valuesC s form = none) : rdP s form = (0, 2) := by unfold rdP; rw [h]
theorem rdP_bad {s form : Bs} {g : Vals} (h : valuesC s form = some g) (ht : (tmP g).2 ≠ 0) : rdP s form = (0, 7) := by unfold rdP; rw [h]; simp only; rw [if_neg ht]
theorem rdP_yes {s form : Bs} {g : Vals} {t : Int} (h : valuesC s form = some g) (ht : tmP g = (t, 0)) (ha : ∀ c v, g c = some v → fnL c t = v) : rdP s form = (t, 0) := by
  unfold rdP; rw [h]; simp only; rw [ht, if_pos rfl, if_pos ha]
theorem rdP_no {s form : Bs} {g : Vals} {t : Int} (h : valuesC s form = some g) (ht : tmP g = (t, 0)) (ha : ∃ c v, g c = some v ∧ fnL c t ≠ v) : rdP s form = (0, 9) := by
  unfold rdP; rw [h]; simp only; rw [ht, if_pos rfl, if_neg]
  intro hh
  obtain ⟨c, v, h1, h2⟩ := ha
  exact h2 (hh c v h1)
set_option maxRecDepth 100000 in
set_option maxHeartbeats 3200000 in
theorem Read_any (s form : Bs) (hs : s.length ≤ 10000) (hf : form.length ≤ 10000) (w : World) (hT : SpaceIs w) (hE : ErrIs w) :
    Calls Tryz.prog 13 #[.string ⟨s.toArray⟩, .string ⟨form.toArray⟩] w fun e w' => e = .returned (.tuple #[.int .i64 (rdP s form).1, .int .i64 (rdP s form).2]) ∧ Below w.heap.size w w' := by
  have hva := values_any s form hs hf w hT hE
  have HT := Lib.hid hT
  clear hT hE
  rcases read_law s form with ⟨hv, -⟩ | ⟨g, G, hv, -, hrel⟩
  · rw [rdP_none hv]
    have HV : Hid (Calls Tryz.prog 36 #[.string ⟨s.toArray⟩, .string ⟨form.toArray⟩] w fun e w' => (∃ m, e = .returned (.tuple #[.map m, .bool false])) ∧ Below w.heap.size w w') := hva.mono fun e w' hh => by
      obtain ⟨h, hb⟩ := hh
      refine ⟨?_, hb⟩
      rcases h with ⟨_, h⟩ | ⟨g, m, h, _⟩
      · exact h
      · rw [hv] at h; cases h
    clear hva hv
    go_enter Tryz.func13, Tryz.ntmps13
    go_wp2_with (go_at_call 36; refine HV.out.mono ?_; rintro e w5 ⟨⟨m, rfl⟩, hb5⟩)
    go_ret2
    exact ⟨rfl, hb5⟩
  · have HV : Hid (Calls Tryz.prog 36 #[.string ⟨s.toArray⟩, .string ⟨form.toArray⟩] w fun e w' => ∃ m, e = .returned (.tuple #[.map (some m), .bool true]) ∧ VM w' m g ∧ Below w.heap.size w w') := hva.mono fun e w' ⟨h, hb⟩ => by
      rcases h with ⟨h, _⟩ | ⟨g', m, h, h2, h3⟩
      · rw [hv] at h; cases h
      · rw [hv] at h; injection h with h; subst h; exact ⟨m, h2, h3, hb⟩
    have HBY : Hid (∀ c v, g c = some v → ∃ d : UInt8, c = (d.toNat : Int) ∧ (info (d.toNat : Int)).isSome = true) := by
      intro c v hc
      obtain ⟨d, rfl⟩ := hrel.byte c (by rw [hc]; simp)
      refine ⟨d, rfl, ?_⟩
      rcases got_iff hrel d with ⟨_, h2⟩ | ⟨x, w, _, h2, h3⟩
      · rw [h2] at hc; cases hc
      · exact told_known h3
    have HSM := Lib.hid (rel_small hrel)
    have HBAD := Lib.hid (fun (h : (tmP g).2 ≠ 0) => rdP_bad hv h)
    have HYES : Hid (∀ t, tmP g = (t, 0) → (∀ c v, g c = some v → fnL c t = v) → rdP s form = (t, 0)) := fun t h1 h2 => rdP_yes hv h1 h2
    have HNO : Hid (∀ t, tmP g = (t, 0) → (∃ c v, g c = some v ∧ fnL c t ≠ v) → rdP s form = (0, 9)) := fun t h1 h2 => rdP_no hv h1 h2
    obtain ⟨R, hR⟩ : ∃ R, rdP s form = R := ⟨_, rfl⟩
    rw [hR] at HBAD HYES HNO ⊢
    clear hva hv hrel hR
    have htm : tmP g = match g 115 with
      | some t => if validI t = true then (t, 0) else (0, 7)
      | none => if (datedC g).2 = true ∧ validI (datedC g).1 = true then ((datedC g).1, 0) else (0, 7) := rfl
    cases h115 : g 115 with
    | some t =>
      rw [h115] at htm
      simp only at htm
      have HLK : Hid (∀ W m, VM W m g → (Instr.lookup 85 (.map (some m)) (.int .u8 115) true).run Tryz.prog W = .ok (.tuple #[.int .i64 t, .bool true]) W) := fun W m h => by
        have := h.look 115 (by decide)
        rw [h115] at this
        exact this
      have HVL := Lib.hid (fun W => valid_any t W)
      cases hval : validI t with
      | false =>
        rw [hval] at HVL htm
        obtain rfl : R = (0, 7) := HBAD.out (by rw [htm]; simp)
        clear htm HBAD HYES HNO HSM HBY h115 hval
        go_enter Tryz.func13, Tryz.ntmps13
        go_wp2_with (first | (go_at_call 36; refine HV.out.mono ?_; rintro e w5 ⟨m, rfl, hvm5, hb5⟩; have H5 := Lib.hid hvm5; have HB5 := Lib.hid hb5; clear hvm5 hb5; have hlk := HLK.out _ _ H5.out) | (go_at_call 17; refine (HVL.out _).mono ?_; rintro e w7 ⟨rfl, rfl⟩))
        go_ret2
        exact ⟨rfl, HB5.out⟩
      | true =>
        rw [hval] at HVL htm
        rw [if_pos rfl] at htm
        obtain ⟨ht1, ht2⟩ := (validI_iff t).1 hval
        have HYES2 := Lib.hid (HYES.out t htm)
        have HNO2 := Lib.hid (HNO.out t htm)
        clear htm HBAD HYES HNO HSM h115 hval
        go_enter Tryz.func13, Tryz.ntmps13
        go_wp2_with (first | (go_at_call 36; refine HV.out.mono ?_; rintro e w5 ⟨m, rfl, hvm5, hb5⟩; have H5 := Lib.hid hvm5; have HB5 := Lib.hid hb5; clear hvm5 hb5; have hlk := HLK.out _ _ H5.out) | (go_at_call 17; refine (HVL.out _).mono ?_; rintro e w7 ⟨rfl, rfl⟩) | (go_at_call 34; refine (letters_any _ (HT.out.below HB5.out)).mono ?_; rintro e w3 ⟨rfl, hls⟩; obtain ⟨lg, hlg⟩ := letters_of hls; have HB3 := Lib.hid (HB5.out.trans (hls.below.mono HB5.out.size)); obtain ⟨es, clock, hes, hst, hkeys, hgm⟩ := (show VM w3 m g from H5.out.below hls.below); have hrg := run_range_map (P := Tryz.prog) w3 85 5 3 m es clock Tryz.underlying85 hes; have HL3 := Lib.hid hlg; clear hls hlg))
        obtain ⟨hs1, hs2, hs3⟩ := (MapKept.stamped_iff es clock).1 hst
        have hml : m < w3.heap.size := (Array.getElem?_eq_some_iff.1 hes).1
        have HI0 : Hid ((w3.alloc (.mapIter (some m) clock #[] clock)).heap[w3.heap.size]? = some (.mapIter (some m) clock #[] clock)) := (MapKept.heap_alloc w3 (.mapIter (some m) clock #[] clock)).1
        have HE0 : Hid ((w3.alloc (.mapIter (some m) clock #[] clock)).heap[m]? = some (.map es clock)) := ((MapKept.heap_alloc w3 (.mapIter (some m) clock #[] clock)).2 m hml).trans hes
        have HK := Lib.hid hkeys
        have HM := Lib.hid hgm
        clear hkeys hgm hes hst hrg
        generalize hLW : w5.heap.size + 2 = mb at *
        go_loopg [11, 12] (leftOf es #[]).size (fun g _ _ wr => ∃ seen : Array Nat, (leftOf es seen).size = g ∧ Hid (wr.heap[w3.heap.size]? = some (.mapIter (some m) clock seen clock)) ∧ Hid (wr.heap[m]? = some (.map es clock)) ∧ Hid (Below w3.heap.size w3 wr) ∧ Hid (∀ x ∈ es.toList, seen.contains x.born = true → EntOk t x))
        case atStart => exact ⟨#[], rfl, HI0, HE0, Lib.hid (below_alloc1 _ _), fun x _ hx => by simp at hx⟩
        case round =>
          obtain ⟨seen, hsz, HI, HE, HB, HP⟩ := hrel
          rcases run_next_at (P := Tryz.prog) wr 0 w3.heap.size m clock clock seen es clock HI.out HE.out (fun x hx => hs1 x hx) (Nat.le_refl _) with ⟨h0, hrun⟩ | ⟨en, hen, w1, hw1, hrun⟩
          · obtain rfl : R = (t, 0) := (HYES2.out fun c v hc => by
              obtain ⟨y, hy, hyk, hyv⟩ := (HM.out c (.int .i64 v)).1 (by rw [hc]; rfl)
              exact HP.out y hy (all_seen es seen h0 y hy) c v hyk hyv)
            have HBB := Lib.hid (HB3.out.trans (HB.out.mono HB3.out.size))
            clear HP HI HE HYES2 HNO2
            go_wp2_with fail
            go_ret2
            exact ⟨rfl, HBB.out⟩
          · obtain ⟨hem, hns⟩ := mem_left hen
            obtain ⟨kx, lx, hkx, _⟩ := HK.out en hem
            obtain ⟨v, hgv, hvv⟩ : ∃ v, g kx = some v ∧ en.val = .int .i64 v := by
              have h1 := (HM.out kx en.val).2 ⟨en, hem, hkx, rfl⟩
              cases hf : g kx with
              | none => rw [hf] at h1; simp at h1
              | some d => rw [hf] at h1; exact ⟨d, rfl, (Option.some.inj h1).symm⟩
            obtain ⟨d, rfl, hdi⟩ := HBY.out kx v hgv
            have hr1 : w1.heap = wr.heap := by rcases hw1 with rfl | rfl <;> rfl
            have hB1 : Below w3.heap.size w3 w1 := by rcases hw1 with rfl | rfl; exact HB.out; exact HB.out.drew
            have hI1 : w1.heap[w3.heap.size]? = some (.mapIter (some m) clock seen clock) := by rw [hr1]; exact HI.out
            have hE1 : w1.heap[m]? = some (.map es clock) := by rw [hr1]; exact HE.out
            have hO := only_setBlock w1 w3.heap.size (.mapIter (some m) clock (seen.push en.born) clock)
            have hB2 := hB1.trans (hO.below (Nat.le_refl _))
            have hI2 := at_setBlock hI1 (.mapIter (some m) clock (seen.push en.born) clock)
            have hE2 : (setBlock w1 w3.heap.size (.mapIter (some m) clock (seen.push en.born) clock)).heap[m]? = some (.map es clock) := (hO.block m (by omega)).trans hE1
            have hent := run_entry_at (P := Tryz.prog) _ w3.heap.size m clock seen es clock en hI2 hE2 hem hs2
            rw [hkx, hvv] at hrun hent
            unfold encU at hrun hent
            generalize setBlock w1 w3.heap.size (.mapIter (some m) clock (seen.push en.born) clock) = W2 at *
            have hL2 := HL3.out.below hB2
            obtain ⟨lv, hlg, hlv⟩ := hL2.yes d hdi
            have hlook := hL2.look1 d
            rw [hlg] at hlook
            simp only [Option.getD_some] at hlook
            have HIE := Lib.hid (fun W' (h : Below W2.heap.size W2 W') => And.intro ((h.block _ (Array.getElem?_eq_some_iff.1 hI2).1).trans hI2) (And.intro ((h.block _ (Array.getElem?_eq_some_iff.1 hE2).1).trans hE2) (hB2.trans (h.mono hB2.size))))
            have HP2 : Hid (fnL (d.toNat : Int) t = v → ∀ x ∈ es.toList, (seen.push en.born).contains x.born = true → EntOk t x) := by
              intro hfv x hx hsx
              rw [Array.contains_push, Bool.or_eq_true] at hsx
              rcases hsx with hsx | hsx
              · exact HP.out x hx hsx
              · have hxe := born_one hs2 hem hx (by simpa using hsx)
                subst hxe
                intro k v' hk hv'
                rw [hkx] at hk
                rw [hvv] at hv'
                injection hv' with _ hv'
                rw [← hv', ← encU_inj _ _ hk]
                exact hfv
            have HN2 : Hid (fnL (d.toNat : Int) t ≠ v → R = (0, 9)) := fun hne => HNO2.out ⟨_, v, hgv, hne⟩
            have hlt := left_shrinks es seen en hen
            have HLC := Lib.hid (letter_call mb W2 d lv hlv t ht1 ht2)
            clear hr1 hB1 hI1 hE1 hO hB2 hI2 hE2 hw1 HP HI HE HB hkx hvv hem hns hen hgv hdi hL2 hlv hlg hs1 hs2 hs3
            rcases HLC.out with ⟨F, dig, nm, rfl, hF, hc⟩ | ⟨a, dig, nm, rfl, hc⟩
            · rcases hF with rfl | rfl | rfl | rfl | rfl
              · have HC := Lib.hid hc
                clear hc HLC
                have hfld := letter_field0 (.func (.func 72) #[] #[]) dig nm W2
                by_cases hfv : fnL (d.toNat : Int) t = v
                · have tk : (fnL (d.toNat : Int) t != v) = false := by simpa using hfv
                  have HP3 := Lib.hid (HP2.out hfv)
                  clear HP2 HN2 hfv
                  unfold FnPost at HC
                  generalize fnL (d.toNat : Int) t = fv at *
                  go_wp2_with (refine HC.out.mono ?_; rintro e w8 ⟨rfl, hb8⟩; have H8 := Lib.hid (HIE.out _ hb8); clear hb8)
                  go_roundg (leftOf es (seen.push en.born)).size
                  case measure => omega
                  case rel => exact ⟨seen.push en.born, rfl, Lib.hid H8.out.1, Lib.hid H8.out.2.1, Lib.hid H8.out.2.2, HP3⟩
                · have tk : (fnL (d.toNat : Int) t != v) = true := by simpa using hfv
                  obtain rfl : R = (0, 9) := HN2.out hfv
                  clear HP2 HN2 hfv
                  unfold FnPost at HC
                  generalize fnL (d.toNat : Int) t = fv at *
                  go_wp2_with (refine HC.out.mono ?_; rintro e w8 ⟨rfl, hb8⟩; have H8 := Lib.hid (HIE.out _ hb8); clear hb8)
                  go_ret2
                  exact ⟨rfl, HB3.out.trans (H8.out.2.2.mono HB3.out.size)⟩
              · have HC := Lib.hid hc
                clear hc HLC
                have hfld := letter_field0 (.func (.func 22) #[] #[]) dig nm W2
                by_cases hfv : fnL (d.toNat : Int) t = v
                · have tk : (fnL (d.toNat : Int) t != v) = false := by simpa using hfv
                  have HP3 := Lib.hid (HP2.out hfv)
                  clear HP2 HN2 hfv
                  unfold FnPost at HC
                  generalize fnL (d.toNat : Int) t = fv at *
                  go_wp2_with (refine HC.out.mono ?_; rintro e w8 ⟨rfl, hb8⟩; have H8 := Lib.hid (HIE.out _ hb8); clear hb8)
                  go_roundg (leftOf es (seen.push en.born)).size
                  case measure => omega
                  case rel => exact ⟨seen.push en.born, rfl, Lib.hid H8.out.1, Lib.hid H8.out.2.1, Lib.hid H8.out.2.2, HP3⟩
                · have tk : (fnL (d.toNat : Int) t != v) = true := by simpa using hfv
                  obtain rfl : R = (0, 9) := HN2.out hfv
                  clear HP2 HN2 hfv
                  unfold FnPost at HC
                  generalize fnL (d.toNat : Int) t = fv at *
                  go_wp2_with (refine HC.out.mono ?_; rintro e w8 ⟨rfl, hb8⟩; have H8 := Lib.hid (HIE.out _ hb8); clear hb8)
                  go_ret2
                  exact ⟨rfl, HB3.out.trans (H8.out.2.2.mono HB3.out.size)⟩
              · have HC := Lib.hid hc
                clear hc HLC
                have hfld := letter_field0 (.func (.func 73) #[] #[]) dig nm W2
                by_cases hfv : fnL (d.toNat : Int) t = v
                · have tk : (fnL (d.toNat : Int) t != v) = false := by simpa using hfv
                  have HP3 := Lib.hid (HP2.out hfv)
                  clear HP2 HN2 hfv
                  unfold FnPost at HC
                  generalize fnL (d.toNat : Int) t = fv at *
                  go_wp2_with (refine HC.out.mono ?_; rintro e w8 ⟨rfl, hb8⟩; have H8 := Lib.hid (HIE.out _ hb8); clear hb8)
                  go_roundg (leftOf es (seen.push en.born)).size
                  case measure => omega
                  case rel => exact ⟨seen.push en.born, rfl, Lib.hid H8.out.1, Lib.hid H8.out.2.1, Lib.hid H8.out.2.2, HP3⟩
                · have tk : (fnL (d.toNat : Int) t != v) = true := by simpa using hfv
                  obtain rfl : R = (0, 9) := HN2.out hfv
                  clear HP2 HN2 hfv
                  unfold FnPost at HC
                  generalize fnL (d.toNat : Int) t = fv at *
                  go_wp2_with (refine HC.out.mono ?_; rintro e w8 ⟨rfl, hb8⟩; have H8 := Lib.hid (HIE.out _ hb8); clear hb8)
                  go_ret2
                  exact ⟨rfl, HB3.out.trans (H8.out.2.2.mono HB3.out.size)⟩
              · have HC := Lib.hid hc
                clear hc HLC
                have hfld := letter_field0 (.func (.func 75) #[] #[]) dig nm W2
                by_cases hfv : fnL (d.toNat : Int) t = v
                · have tk : (fnL (d.toNat : Int) t != v) = false := by simpa using hfv
                  have HP3 := Lib.hid (HP2.out hfv)
                  clear HP2 HN2 hfv
                  unfold FnPost at HC
                  generalize fnL (d.toNat : Int) t = fv at *
                  go_wp2_with (refine HC.out.mono ?_; rintro e w8 ⟨rfl, hb8⟩; have H8 := Lib.hid (HIE.out _ hb8); clear hb8)
                  go_roundg (leftOf es (seen.push en.born)).size
                  case measure => omega
                  case rel => exact ⟨seen.push en.born, rfl, Lib.hid H8.out.1, Lib.hid H8.out.2.1, Lib.hid H8.out.2.2, HP3⟩
                · have tk : (fnL (d.toNat : Int) t != v) = true := by simpa using hfv
                  obtain rfl : R = (0, 9) := HN2.out hfv
                  clear HP2 HN2 hfv
                  unfold FnPost at HC
                  generalize fnL (d.toNat : Int) t = fv at *
                  go_wp2_with (refine HC.out.mono ?_; rintro e w8 ⟨rfl, hb8⟩; have H8 := Lib.hid (HIE.out _ hb8); clear hb8)
                  go_ret2
                  exact ⟨rfl, HB3.out.trans (H8.out.2.2.mono HB3.out.size)⟩
              · have HC := Lib.hid hc
                clear hc HLC
                have hfld := letter_field0 (.func (.func 79) #[] #[]) dig nm W2
                by_cases hfv : fnL (d.toNat : Int) t = v
                · have tk : (fnL (d.toNat : Int) t != v) = false := by simpa using hfv
                  have HP3 := Lib.hid (HP2.out hfv)
                  clear HP2 HN2 hfv
                  unfold FnPost at HC
                  generalize fnL (d.toNat : Int) t = fv at *
                  go_wp2_with (refine HC.out.mono ?_; rintro e w8 ⟨rfl, hb8⟩; have H8 := Lib.hid (HIE.out _ hb8); clear hb8)
                  go_roundg (leftOf es (seen.push en.born)).size
                  case measure => omega
                  case rel => exact ⟨seen.push en.born, rfl, Lib.hid H8.out.1, Lib.hid H8.out.2.1, Lib.hid H8.out.2.2, HP3⟩
                · have tk : (fnL (d.toNat : Int) t != v) = true := by simpa using hfv
                  obtain rfl : R = (0, 9) := HN2.out hfv
                  clear HP2 HN2 hfv
                  unfold FnPost at HC
                  generalize fnL (d.toNat : Int) t = fv at *
                  go_wp2_with (refine HC.out.mono ?_; rintro e w8 ⟨rfl, hb8⟩; have H8 := Lib.hid (HIE.out _ hb8); clear hb8)
                  go_ret2
                  exact ⟨rfl, HB3.out.trans (H8.out.2.2.mono HB3.out.size)⟩
            · have HC := Lib.hid hc
              clear hc HLC
              have hfld := letter_field0 (.func (.func 62) #[] #[.pointer (some ⟨a, 0, none⟩)]) dig nm W2
              by_cases hfv : fnL (d.toNat : Int) t = v
              · have tk : (fnL (d.toNat : Int) t != v) = false := by simpa using hfv
                have HP3 := Lib.hid (HP2.out hfv)
                clear HP2 HN2 hfv
                unfold FnPost at HC
                generalize fnL (d.toNat : Int) t = fv at *
                go_wp2_with (refine HC.out.mono ?_; rintro e w8 ⟨rfl, hb8⟩; have H8 := Lib.hid (HIE.out _ hb8); clear hb8)
                go_roundg (leftOf es (seen.push en.born)).size
                case measure => omega
                case rel => exact ⟨seen.push en.born, rfl, Lib.hid H8.out.1, Lib.hid H8.out.2.1, Lib.hid H8.out.2.2, HP3⟩
              · have tk : (fnL (d.toNat : Int) t != v) = true := by simpa using hfv
                obtain rfl : R = (0, 9) := HN2.out hfv
                clear HP2 HN2 hfv
                unfold FnPost at HC
                generalize fnL (d.toNat : Int) t = fv at *
                go_wp2_with (refine HC.out.mono ?_; rintro e w8 ⟨rfl, hb8⟩; have H8 := Lib.hid (HIE.out _ hb8); clear hb8)
                go_ret2
                exact ⟨rfl, HB3.out.trans (H8.out.2.2.mono HB3.out.size)⟩
    | none =>
      rw [h115] at htm
      simp only at htm
      have HLK : Hid (∀ W m, VM W m g → (Instr.lookup 85 (.map (some m)) (.int .u8 115) true).run Tryz.prog W = .ok (.tuple #[.int .i64 0, .bool false]) W) := fun W m h => by
        have := h.look 115 (by decide)
        rw [h115] at this
        exact this
      have HDT := Lib.hid (fun W m (h : VM W m g) => dated_any m g HSM.out W h)
      clear HSM h115
      obtain ⟨t, ht⟩ : ∃ t, (datedC g).1 = t := ⟨_, rfl⟩
      obtain ⟨ok, hok⟩ : ∃ ok, (datedC g).2 = ok := ⟨_, rfl⟩
      rw [ht, hok] at htm
      simp only [ht, hok] at HDT
      clear ht hok
      have HVL := Lib.hid (fun W => valid_any t W)
      cases ok with
      | false =>
        rw [if_neg (fun e => by cases e.1)] at htm
        obtain rfl : R = (0, 7) := HBAD.out (by rw [htm]; simp)
        clear htm HBAD HYES HNO HBY HVL
        go_enter Tryz.func13, Tryz.ntmps13
        go_wp2_with (first | (go_at_call 36; refine HV.out.mono ?_; rintro e w5 ⟨m, rfl, hvm5, hb5⟩; have H5 := Lib.hid hvm5; have HB5 := Lib.hid hb5; clear hvm5 hb5; have hlk := HLK.out _ _ H5.out) | (go_at_call 37; refine (HDT.out _ _ H5.out).mono ?_; rintro e w6 ⟨rfl, hb6⟩; have H6 := Lib.hid (H5.out.below hb6); have HB6 := Lib.hid (HB5.out.trans (hb6.mono HB5.out.size)); clear hb6))
        go_ret2
        exact ⟨rfl, HB6.out⟩
      | true =>
        cases hval : validI t with
        | false =>
          rw [hval] at HVL htm
          rw [if_neg (fun e => by cases e.2)] at htm
          obtain rfl : R = (0, 7) := HBAD.out (by rw [htm]; simp)
          clear htm HBAD HYES HNO HBY hval
          go_enter Tryz.func13, Tryz.ntmps13
          go_wp2_with (first | (go_at_call 36; refine HV.out.mono ?_; rintro e w5 ⟨m, rfl, hvm5, hb5⟩; have H5 := Lib.hid hvm5; have HB5 := Lib.hid hb5; clear hvm5 hb5; have hlk := HLK.out _ _ H5.out) | (go_at_call 37; refine (HDT.out _ _ H5.out).mono ?_; rintro e w6 ⟨rfl, hb6⟩; have H6 := Lib.hid (H5.out.below hb6); have HB6 := Lib.hid (HB5.out.trans (hb6.mono HB5.out.size)); clear hb6) | (go_at_call 17; refine (HVL.out _).mono ?_; rintro e w7 ⟨rfl, rfl⟩))
          go_ret2
          exact ⟨rfl, HB6.out⟩
        | true =>
          rw [hval] at HVL htm
          rw [if_pos ⟨rfl, rfl⟩] at htm
          obtain ⟨ht1, ht2⟩ := (validI_iff t).1 hval
          have HYES2 := Lib.hid (HYES.out t htm)
          have HNO2 := Lib.hid (HNO.out t htm)
          clear htm HBAD HYES HNO hval
          go_enter Tryz.func13, Tryz.ntmps13
          go_wp2_with (first | (go_at_call 36; refine HV.out.mono ?_; rintro e w5 ⟨m, rfl, hvm5, hb5⟩; have H5 := Lib.hid hvm5; have HB5 := Lib.hid hb5; clear hvm5 hb5; have hlk := HLK.out _ _ H5.out) | (go_at_call 37; refine (HDT.out _ _ H5.out).mono ?_; rintro e w6 ⟨rfl, hb6⟩; have H6 := Lib.hid (H5.out.below hb6); have HB6 := Lib.hid (HB5.out.trans (hb6.mono HB5.out.size)); clear hb6) | (go_at_call 17; refine (HVL.out _).mono ?_; rintro e w7 ⟨rfl, rfl⟩) | (go_at_call 34; refine (letters_any _ (HT.out.below HB6.out)).mono ?_; rintro e w3 ⟨rfl, hls⟩; obtain ⟨lg, hlg⟩ := letters_of hls; have HB3 := Lib.hid (HB6.out.trans (hls.below.mono HB6.out.size)); obtain ⟨es, clock, hes, hst, hkeys, hgm⟩ := (show VM w3 m g from H6.out.below hls.below); have hrg := run_range_map (P := Tryz.prog) w3 85 5 3 m es clock Tryz.underlying85 hes; have HL3 := Lib.hid hlg; clear hls hlg))
          obtain ⟨hs1, hs2, hs3⟩ := (MapKept.stamped_iff es clock).1 hst
          have hml : m < w3.heap.size := (Array.getElem?_eq_some_iff.1 hes).1
          have HI0 : Hid ((w3.alloc (.mapIter (some m) clock #[] clock)).heap[w3.heap.size]? = some (.mapIter (some m) clock #[] clock)) := (MapKept.heap_alloc w3 (.mapIter (some m) clock #[] clock)).1
          have HE0 : Hid ((w3.alloc (.mapIter (some m) clock #[] clock)).heap[m]? = some (.map es clock)) := ((MapKept.heap_alloc w3 (.mapIter (some m) clock #[] clock)).2 m hml).trans hes
          have HK := Lib.hid hkeys
          have HM := Lib.hid hgm
          clear hkeys hgm hes hst hrg
          generalize hLW : w6.heap.size + 2 = mb at *
          go_loopg [11, 12] (leftOf es #[]).size (fun g _ _ wr => ∃ seen : Array Nat, (leftOf es seen).size = g ∧ Hid (wr.heap[w3.heap.size]? = some (.mapIter (some m) clock seen clock)) ∧ Hid (wr.heap[m]? = some (.map es clock)) ∧ Hid (Below w3.heap.size w3 wr) ∧ Hid (∀ x ∈ es.toList, seen.contains x.born = true → EntOk t x))
          case atStart => exact ⟨#[], rfl, HI0, HE0, Lib.hid (below_alloc1 _ _), fun x _ hx => by simp at hx⟩
          case round =>
            obtain ⟨seen, hsz, HI, HE, HB, HP⟩ := hrel
            rcases run_next_at (P := Tryz.prog) wr 0 w3.heap.size m clock clock seen es clock HI.out HE.out (fun x hx => hs1 x hx) (Nat.le_refl _) with ⟨h0, hrun⟩ | ⟨en, hen, w1, hw1, hrun⟩
            · obtain rfl : R = (t, 0) := (HYES2.out fun c v hc => by
                obtain ⟨y, hy, hyk, hyv⟩ := (HM.out c (.int .i64 v)).1 (by rw [hc]; rfl)
                exact HP.out y hy (all_seen es seen h0 y hy) c v hyk hyv)
              have HBB := Lib.hid (HB3.out.trans (HB.out.mono HB3.out.size))
              clear HP HI HE HYES2 HNO2
              go_wp2_with fail
              go_ret2
              exact ⟨rfl, HBB.out⟩
            · obtain ⟨hem, hns⟩ := mem_left hen
              obtain ⟨kx, lx, hkx, _⟩ := HK.out en hem
              obtain ⟨v, hgv, hvv⟩ : ∃ v, g kx = some v ∧ en.val = .int .i64 v := by
                have h1 := (HM.out kx en.val).2 ⟨en, hem, hkx, rfl⟩
                cases hf : g kx with
                | none => rw [hf] at h1; simp at h1
                | some d => rw [hf] at h1; exact ⟨d, rfl, (Option.some.inj h1).symm⟩
              obtain ⟨d, rfl, hdi⟩ := HBY.out kx v hgv
              have hr1 : w1.heap = wr.heap := by rcases hw1 with rfl | rfl <;> rfl
              have hB1 : Below w3.heap.size w3 w1 := by rcases hw1 with rfl | rfl; exact HB.out; exact HB.out.drew
              have hI1 : w1.heap[w3.heap.size]? = some (.mapIter (some m) clock seen clock) := by rw [hr1]; exact HI.out
              have hE1 : w1.heap[m]? = some (.map es clock) := by rw [hr1]; exact HE.out
              have hO := only_setBlock w1 w3.heap.size (.mapIter (some m) clock (seen.push en.born) clock)
              have hB2 := hB1.trans (hO.below (Nat.le_refl _))
              have hI2 := at_setBlock hI1 (.mapIter (some m) clock (seen.push en.born) clock)
              have hE2 : (setBlock w1 w3.heap.size (.mapIter (some m) clock (seen.push en.born) clock)).heap[m]? = some (.map es clock) := (hO.block m (by omega)).trans hE1
              have hent := run_entry_at (P := Tryz.prog) _ w3.heap.size m clock seen es clock en hI2 hE2 hem hs2
              rw [hkx, hvv] at hrun hent
              unfold encU at hrun hent
              generalize setBlock w1 w3.heap.size (.mapIter (some m) clock (seen.push en.born) clock) = W2 at *
              have hL2 := HL3.out.below hB2
              obtain ⟨lv, hlg, hlv⟩ := hL2.yes d hdi
              have hlook := hL2.look1 d
              rw [hlg] at hlook
              simp only [Option.getD_some] at hlook
              have HIE := Lib.hid (fun W' (h : Below W2.heap.size W2 W') => And.intro ((h.block _ (Array.getElem?_eq_some_iff.1 hI2).1).trans hI2) (And.intro ((h.block _ (Array.getElem?_eq_some_iff.1 hE2).1).trans hE2) (hB2.trans (h.mono hB2.size))))
              have HP2 : Hid (fnL (d.toNat : Int) t = v → ∀ x ∈ es.toList, (seen.push en.born).contains x.born = true → EntOk t x) := by
                intro hfv x hx hsx
                rw [Array.contains_push, Bool.or_eq_true] at hsx
                rcases hsx with hsx | hsx
                · exact HP.out x hx hsx
                · have hxe := born_one hs2 hem hx (by simpa using hsx)
                  subst hxe
                  intro k v' hk hv'
                  rw [hkx] at hk
                  rw [hvv] at hv'
                  injection hv' with _ hv'
                  rw [← hv', ← encU_inj _ _ hk]
                  exact hfv
              have HN2 : Hid (fnL (d.toNat : Int) t ≠ v → R = (0, 9)) := fun hne => HNO2.out ⟨_, v, hgv, hne⟩
              have hlt := left_shrinks es seen en hen
              have HLC := Lib.hid (letter_call mb W2 d lv hlv t ht1 ht2)
              clear hr1 hB1 hI1 hE1 hO hB2 hI2 hE2 hw1 HP HI HE HB hkx hvv hem hns hen hgv hdi hL2 hlv hlg hs1 hs2 hs3
              rcases HLC.out with ⟨F, dig, nm, rfl, hF, hc⟩ | ⟨a, dig, nm, rfl, hc⟩
              · rcases hF with rfl | rfl | rfl | rfl | rfl
                · have HC := Lib.hid hc
                  clear hc HLC
                  have hfld := letter_field0 (.func (.func 72) #[] #[]) dig nm W2
                  by_cases hfv : fnL (d.toNat : Int) t = v
                  · have tk : (fnL (d.toNat : Int) t != v) = false := by simpa using hfv
                    have HP3 := Lib.hid (HP2.out hfv)
                    clear HP2 HN2 hfv
                    unfold FnPost at HC
                    generalize fnL (d.toNat : Int) t = fv at *
                    go_wp2_with (refine HC.out.mono ?_; rintro e w8 ⟨rfl, hb8⟩; have H8 := Lib.hid (HIE.out _ hb8); clear hb8)
                    go_roundg (leftOf es (seen.push en.born)).size
                    case measure => omega
                    case rel => exact ⟨seen.push en.born, rfl, Lib.hid H8.out.1, Lib.hid H8.out.2.1, Lib.hid H8.out.2.2, HP3⟩
                  · have tk : (fnL (d.toNat : Int) t != v) = true := by simpa using hfv
                    obtain rfl : R = (0, 9) := HN2.out hfv
                    clear HP2 HN2 hfv
                    unfold FnPost at HC
                    generalize fnL (d.toNat : Int) t = fv at *
                    go_wp2_with (refine HC.out.mono ?_; rintro e w8 ⟨rfl, hb8⟩; have H8 := Lib.hid (HIE.out _ hb8); clear hb8)
                    go_ret2
                    exact ⟨rfl, HB3.out.trans (H8.out.2.2.mono HB3.out.size)⟩
                · have HC := Lib.hid hc
                  clear hc HLC
                  have hfld := letter_field0 (.func (.func 22) #[] #[]) dig nm W2
                  by_cases hfv : fnL (d.toNat : Int) t = v
                  · have tk : (fnL (d.toNat : Int) t != v) = false := by simpa using hfv
                    have HP3 := Lib.hid (HP2.out hfv)
                    clear HP2 HN2 hfv
                    unfold FnPost at HC
                    generalize fnL (d.toNat : Int) t = fv at *
                    go_wp2_with (refine HC.out.mono ?_; rintro e w8 ⟨rfl, hb8⟩; have H8 := Lib.hid (HIE.out _ hb8); clear hb8)
                    go_roundg (leftOf es (seen.push en.born)).size
                    case measure => omega
                    case rel => exact ⟨seen.push en.born, rfl, Lib.hid H8.out.1, Lib.hid H8.out.2.1, Lib.hid H8.out.2.2, HP3⟩
                  · have tk : (fnL (d.toNat : Int) t != v) = true := by simpa using hfv
                    obtain rfl : R = (0, 9) := HN2.out hfv
                    clear HP2 HN2 hfv
                    unfold FnPost at HC
                    generalize fnL (d.toNat : Int) t = fv at *
                    go_wp2_with (refine HC.out.mono ?_; rintro e w8 ⟨rfl, hb8⟩; have H8 := Lib.hid (HIE.out _ hb8); clear hb8)
                    go_ret2
                    exact ⟨rfl, HB3.out.trans (H8.out.2.2.mono HB3.out.size)⟩
                · have HC := Lib.hid hc
                  clear hc HLC
                  have hfld := letter_field0 (.func (.func 73) #[] #[]) dig nm W2
                  by_cases hfv : fnL (d.toNat : Int) t = v
                  · have tk : (fnL (d.toNat : Int) t != v) = false := by simpa using hfv
                    have HP3 := Lib.hid (HP2.out hfv)
                    clear HP2 HN2 hfv
                    unfold FnPost at HC
                    generalize fnL (d.toNat : Int) t = fv at *
                    go_wp2_with (refine HC.out.mono ?_; rintro e w8 ⟨rfl, hb8⟩; have H8 := Lib.hid (HIE.out _ hb8); clear hb8)
                    go_roundg (leftOf es (seen.push en.born)).size
                    case measure => omega
                    case rel => exact ⟨seen.push en.born, rfl, Lib.hid H8.out.1, Lib.hid H8.out.2.1, Lib.hid H8.out.2.2, HP3⟩
                  · have tk : (fnL (d.toNat : Int) t != v) = true := by simpa using hfv
                    obtain rfl : R = (0, 9) := HN2.out hfv
                    clear HP2 HN2 hfv
                    unfold FnPost at HC
                    generalize fnL (d.toNat : Int) t = fv at *
                    go_wp2_with (refine HC.out.mono ?_; rintro e w8 ⟨rfl, hb8⟩; have H8 := Lib.hid (HIE.out _ hb8); clear hb8)
                    go_ret2
                    exact ⟨rfl, HB3.out.trans (H8.out.2.2.mono HB3.out.size)⟩
                · have HC := Lib.hid hc
                  clear hc HLC
                  have hfld := letter_field0 (.func (.func 75) #[] #[]) dig nm W2
                  by_cases hfv : fnL (d.toNat : Int) t = v
                  · have tk : (fnL (d.toNat : Int) t != v) = false := by simpa using hfv
                    have HP3 := Lib.hid (HP2.out hfv)
                    clear HP2 HN2 hfv
                    unfold FnPost at HC
                    generalize fnL (d.toNat : Int) t = fv at *
                    go_wp2_with (refine HC.out.mono ?_; rintro e w8 ⟨rfl, hb8⟩; have H8 := Lib.hid (HIE.out _ hb8); clear hb8)
                    go_roundg (leftOf es (seen.push en.born)).size
                    case measure => omega
                    case rel => exact ⟨seen.push en.born, rfl, Lib.hid H8.out.1, Lib.hid H8.out.2.1, Lib.hid H8.out.2.2, HP3⟩
                  · have tk : (fnL (d.toNat : Int) t != v) = true := by simpa using hfv
                    obtain rfl : R = (0, 9) := HN2.out hfv
                    clear HP2 HN2 hfv
                    unfold FnPost at HC
                    generalize fnL (d.toNat : Int) t = fv at *
                    go_wp2_with (refine HC.out.mono ?_; rintro e w8 ⟨rfl, hb8⟩; have H8 := Lib.hid (HIE.out _ hb8); clear hb8)
                    go_ret2
                    exact ⟨rfl, HB3.out.trans (H8.out.2.2.mono HB3.out.size)⟩
                · have HC := Lib.hid hc
                  clear hc HLC
                  have hfld := letter_field0 (.func (.func 79) #[] #[]) dig nm W2
                  by_cases hfv : fnL (d.toNat : Int) t = v
                  · have tk : (fnL (d.toNat : Int) t != v) = false := by simpa using hfv
                    have HP3 := Lib.hid (HP2.out hfv)
                    clear HP2 HN2 hfv
                    unfold FnPost at HC
                    generalize fnL (d.toNat : Int) t = fv at *
                    go_wp2_with (refine HC.out.mono ?_; rintro e w8 ⟨rfl, hb8⟩; have H8 := Lib.hid (HIE.out _ hb8); clear hb8)
                    go_roundg (leftOf es (seen.push en.born)).size
                    case measure => omega
                    case rel => exact ⟨seen.push en.born, rfl, Lib.hid H8.out.1, Lib.hid H8.out.2.1, Lib.hid H8.out.2.2, HP3⟩
                  · have tk : (fnL (d.toNat : Int) t != v) = true := by simpa using hfv
                    obtain rfl : R = (0, 9) := HN2.out hfv
                    clear HP2 HN2 hfv
                    unfold FnPost at HC
                    generalize fnL (d.toNat : Int) t = fv at *
                    go_wp2_with (refine HC.out.mono ?_; rintro e w8 ⟨rfl, hb8⟩; have H8 := Lib.hid (HIE.out _ hb8); clear hb8)
                    go_ret2
                    exact ⟨rfl, HB3.out.trans (H8.out.2.2.mono HB3.out.size)⟩
              · have HC := Lib.hid hc
                clear hc HLC
                have hfld := letter_field0 (.func (.func 62) #[] #[.pointer (some ⟨a, 0, none⟩)]) dig nm W2
                by_cases hfv : fnL (d.toNat : Int) t = v
                · have tk : (fnL (d.toNat : Int) t != v) = false := by simpa using hfv
                  have HP3 := Lib.hid (HP2.out hfv)
                  clear HP2 HN2 hfv
                  unfold FnPost at HC
                  generalize fnL (d.toNat : Int) t = fv at *
                  go_wp2_with (refine HC.out.mono ?_; rintro e w8 ⟨rfl, hb8⟩; have H8 := Lib.hid (HIE.out _ hb8); clear hb8)
                  go_roundg (leftOf es (seen.push en.born)).size
                  case measure => omega
                  case rel => exact ⟨seen.push en.born, rfl, Lib.hid H8.out.1, Lib.hid H8.out.2.1, Lib.hid H8.out.2.2, HP3⟩
                · have tk : (fnL (d.toNat : Int) t != v) = true := by simpa using hfv
                  obtain rfl : R = (0, 9) := HN2.out hfv
                  clear HP2 HN2 hfv
                  unfold FnPost at HC
                  generalize fnL (d.toNat : Int) t = fv at *
                  go_wp2_with (refine HC.out.mono ?_; rintro e w8 ⟨rfl, hb8⟩; have H8 := Lib.hid (HIE.out _ hb8); clear hb8)
                  go_ret2
                  exact ⟨rfl, HB3.out.trans (H8.out.2.2.mono HB3.out.size)⟩
end Go.Proofs.YtkahakhhdiffcaaGreatDoor

/- TopPairs: the plain law, and the sanity check. -/
import Derived.Test.YtodajjhchngkgaaTopL
import Derived.Test.YtodajjhchngkgaaTopE
import Derived.Test.YtodajjhchngkgaaSame
import Derived.Test.YtodajjhchngkgaaBook10
namespace Go.Proofs.Ytodajjhchngkgaa
set_option linter.unusedVariables false
set_option linter.unusedSimpArgs false
open Go.RowKit

theorem wt_long (ss : List Bs) : wt ss ≤ 5 * longS ss := by
  induction ss with
  | nil => simp [wt]
  | cons s r ih => simp only [wt, longS]; omega
theorem len_long (ss : List Bs) : ss.length ≤ longS ss := by
  induction ss with
  | nil => simp [longS]
  | cons s r ih => simp only [List.length_cons, longS]; omega
/-- What all three ways tell. -/
theorem top_plain (l : List Bs) (key text : Bs) (h1 : longS l ≤ 600) (h2 : longS [key, text] ≤ 600) (he : l.length % 2 = 0) :
    ∃ (s d T : Bs) (ps : Prs), joinE l = (s, 0) ∧ createC l = (d, 0) ∧ readC s = some ps ∧ canonC s = (d, 0) ∧ setC s [key] text = (T, 0) ∧ joinE (flatP (setP ps key text)) = (T, 0) ∧ getC T [key] = (text, 0) ∧
      d = joinL (flatP ps) ∧ (flatP ps).length ≤ 10000 ∧ (joinL (flatP ps)).length ≤ 65536 ∧ s.length ≤ 19999 ∧ T.length ≤ 19999 := by
  have a1 := wt_long l
  have a2 := len_long l
  have a3 := join_len l
  have a4 := pairs_wt l.length l (Nat.le_refl _)
  have a5 := add_wt [] (pairsOf l)
  have a6 : wt (flatP ([] : Prs)) = 0 := rfl
  obtain ⟨ps, hps⟩ : ∃ ps, ps = addP [] (pairsOf l) := ⟨_, rfl⟩
  rw [← hps] at a5
  have a7 := wt_len (flatP ps)
  have a8 := join_len (flatP ps)
  have hr : readC (joinL l) = some ps := by
    unfold readC
    rw [split_join, Option.bind_some, if_pos he, hps]
  have b1 := set_wt ps key text
  have b2 := wt_len (flatP (setP ps key text))
  have b3 := join_len (flatP (setP ps key text))
  have b4 : wt [key, text] ≤ 5 * longS [key, text] := wt_long _
  have b5 := join_mono
  have hset : joinE (flatP (setP ps key text)) = (joinL (flatP (setP ps key text)), 0) := joinE_ok (by omega) (by omega)
  have hback := read_join (set_uniq (read_uniq hr) key text)
  refine ⟨joinL l, joinL (flatP ps), joinL (flatP (setP ps key text)), ps, joinE_ok (by omega) (by omega), ?_, hr, ?_, ?_, hset, ?_, rfl, by omega, by omega, by omega, by omega⟩
  · unfold createC
    rw [if_pos he, ← hps, joinE_ok (by omega) (by omega)]
  · unfold canonC
    rw [hr]
    exact joinE_ok (by omega) (by omega)
  · unfold setC
    have hw : walkC (joinL l) [key] = 0 := by unfold walkC; rw [hr]
    rw [if_pos hw, putC, chgE, hr]
    simp only [putC, if_true]
    rw [hset]
  · unfold getC
    rw [if_neg (by simp), getL, hback]
    simp only [get_set, getL]
theorem awake9_quoted : joinL [[97, 32, 98], [36, 120]] = [123, 97, 32, 98, 125, 32, 123, 36, 120, 125] := by decide +kernel
theorem awake9_set : setC [123, 97, 32, 98, 125, 32, 123, 36, 120, 125] [[107]] [] = ([123, 97, 32, 98, 125, 32, 123, 36, 120, 125, 32, 107, 32, 123, 125], 0) := by decide +kernel
theorem awake9_any (w : World) (hM : MaxIs w) : Calls Try.prog 5 #[] w fun e w' => e = .returned (.bool true) ∧ Below w.heap.size w w' := by
  have QT : Hid (Calls Try.prog 20 #[.slice (some ⟨w.heap.size, 0, none⟩) 2 2] (w.alloc (.cells #[.string ⟨#[97, 32, 98]⟩, .string ⟨#[36, 120]⟩] 9)) fun e w' => e = .returned (.string ⟨([123, 97, 32, 98, 125, 32, 123, 36, 120, 125] : Bs).toArray⟩) ∧ Below w.heap.size w w') := by
    have hB1 : Below w.heap.size w (w.alloc (.cells #[.string ⟨#[97, 32, 98]⟩, .string ⟨#[36, 120]⟩] 9)) := (Below.refl _ _).alloc (Nat.le_refl _) _
    have h := Quoted_any [[97, 32, 98], [36, 120]] _ _ (hM.below hB1 hM.pos) (txt_new w [[97, 32, 98], [36, 120]] (by decide)) (by decide) (by decide) (by rw [awake9_quoted]; decide)
    rw [awake9_quoted] at h
    exact h.mono fun e w2 ⟨h1, h2⟩ => ⟨h1, hB1.trans (h2.mono hB1.size)⟩
  have LE : Hid (∀ w', Below w.heap.size w w' → Calls Try.prog 21 #[.string ⟨([123, 97, 32, 98, 125, 32, 123, 36, 120, 125] : Bs).toArray⟩] w' fun e w2 => e = .returned (.tuple #[.int .i64 2, .int .i64 0]) ∧ Below w.heap.size w w2) := by
    intro w' hB
    have h := Length_any [123, 97, 32, 98, 125, 32, 123, 36, 120, 125] (by decide) [[97, 32, 98], [36, 120]] (by rw [← awake9_quoted]; exact split_join _) (by decide) w'
    exact h.mono fun e w2 ⟨h1, h2⟩ => ⟨h1, hB.trans (h2.mono hB.size)⟩
  have SET : Hid (∀ w', Below w.heap.size w w' → Calls Try.prog 14 #[.string ⟨([123, 97, 32, 98, 125, 32, 123, 36, 120, 125] : Bs).toArray⟩, .slice (some ⟨w'.heap.size, 0, none⟩) 1 1, .string ⟨#[]⟩] (w'.alloc (.cells #[.string ⟨#[107]⟩] 9)) fun e w2 => e = .returned (.tuple #[.string ⟨([123, 97, 32, 98, 125, 32, 123, 36, 120, 125, 32, 107, 32, 123, 125] : Bs).toArray⟩, .int .i64 0]) ∧ Below w.heap.size w w2) := by
    intro w' hB
    have hM1 := hM.below hB hM.pos
    have hB1 : Below w'.heap.size w' (w'.alloc (.cells #[.string ⟨#[107]⟩] 9)) := (Below.refl _ _).alloc (Nat.le_refl _) _
    have hT : TxtRow (w'.alloc (.cells #[.string ⟨#[107]⟩] 9)) (.slice (some ⟨w'.heap.size, 0, none⟩) 1 1) [[107]] := txt_new w' [[107]] (by decide)
    have h := Set_any [123, 97, 32, 98, 125, 32, 123, 36, 120, 125] [[107]] [] _ _ (hM1.below hB1 hM1.pos) (by decide) (by decide) hT
    rw [awake9_set] at h
    exact h.mono fun e w2 ⟨h1, h2⟩ => ⟨h1, hB.trans ((hB1.trans (h2.mono hB1.size)).mono hB.size)⟩
  clear hM
  go_enter Try.func5, Try.ntmps5
  go_wp2_with (first | (go_at_call 20; refine QT.out.mono ?_; rintro e w1 ⟨rfl, hB1⟩; have H1 := Lib.hid hB1; clear hB1) | (go_at_call 21; refine (LE.out _ H1.out).mono ?_; rintro e w2 ⟨rfl, hB2⟩; have H2 := Lib.hid hB2; clear hB2) | (go_at_call 14; refine (SET.out _ H2.out).mono ?_; rintro e w3 ⟨rfl, hB3⟩; have H3 := Lib.hid hB3; clear hB3))
  go_ret
  exact ⟨rfl, H3.out⟩
end Go.Proofs.Ytodajjhchngkgaa

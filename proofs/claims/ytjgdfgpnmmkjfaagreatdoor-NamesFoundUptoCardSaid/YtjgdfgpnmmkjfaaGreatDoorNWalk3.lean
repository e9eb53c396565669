/- NamesPaths: Absolute, joined, Canonical, last, Head, Tail of package names. -/
import Derived.Test.YtjgdfgpnmmkjfaaGreatDoorNWalk2
namespace Go.Proofs.YtjgdfgpnmmkjfaaGreatDoor
set_option linter.unusedVariables false
set_option linter.unusedSimpArgs false
open Go.RowKit

def wN : List Bs → Nat
  | [] => 0
  | p :: r => p.length + 2 + wN r
theorem wN_app (a b : List Bs) : wN (a ++ b) = wN a + wN b := by
  induction a with
  | nil => simp [wN]
  | cons x r ih => simp only [List.cons_append, wN, ih]; omega
theorem wN_emit (p : Bs) : wN (emitP p) ≤ p.length + 2 := by unfold emitP; split <;> simp [wN]
theorem goN_w : ∀ s : Bs, wN (goN none s) ≤ 3 * s.length ∧ ∀ p, wN (goN (some p) s) ≤ p.length + 2 + 3 * s.length
  | [] => ⟨by simp [goN, wN], fun p => by rw [goN]; have := wN_emit p; omega⟩
  | c :: r => by
    obtain ⟨h1, h2⟩ := goN_w r
    refine ⟨?_, fun p => ?_⟩
    · rw [goN, List.length_cons]
      split
      · omega
      · have := h2 [c]; simp at this; omega
    · rw [goN, List.length_cons]
      split
      · rw [wN_app]; have := wN_emit p; omega
      · have := h2 (p ++ [c]); rw [List.length_append] at this; simp at this; omega
theorem parts_w (s : Bs) : wN (partsN s) ≤ 2 + 3 * s.length := by
  have h1 := (goN_w (bareR (bareL s))).2 []
  have h2 := bare_len s
  unfold partsN
  simp at h1
  omega
theorem join_w : ∀ l : List Bs, (joinN l).length ≤ wN l
  | [] => Nat.le_refl _
  | [p] => by simp [joinN, wN]
  | p :: q :: r => by
    have h := join_w (q :: r)
    rw [joinN, wN]
    · rw [List.length_append, List.length_cons, List.length_cons]; omega
    · simp
theorem len_w : ∀ l : List Bs, l.length ≤ wN l
  | [] => Nat.le_refl _
  | p :: r => by have h := len_w r; simp only [List.length_cons, wN]; omega
theorem join_lib : ∀ l : List Bs, Lib.join l [58, 58] = joinN l
  | [] => rfl
  | [x] => by simp [Lib.join_one, joinN]
  | x :: y :: r => by
    have h := join_lib (y :: r)
    rw [Lib.join_cons] at h
    rw [Lib.join_cons, joinN]
    · rw [← h]
      simp [Lib.joinTail]
    · simp
theorem abs_lib (s : Bs) : Lib.hasPrefix s [58, 58] = absN s := by
  match s with
  | [] => rfl
  | [c] =>
    have : absN [c] = false := by
      unfold absN
      split
      · rename_i e; simp at e
      · rfl
    rw [this]
    simp [Lib.hasPrefix, List.isPrefixOf]
  | c :: d :: r =>
    by_cases hc : c = 58
    · subst hc
      by_cases hd : d = 58
      · subst hd; simp [Lib.hasPrefix, absN, List.isPrefixOf]
      · rw [abs_not_head (.inr hd)]
        simp [Lib.hasPrefix, List.isPrefixOf]; exact fun e => hd e.symm
    · rw [abs_not_head (.inl hc)]
      simp [Lib.hasPrefix, List.isPrefixOf]; exact fun e => absurd e.symm hc
theorem Absolute_any (s : Bs) (w : World) : Calls Tryz.prog 18 #[.string ⟨s.toArray⟩] w fun e w' => e = .returned (.bool (absN s)) ∧ w = w' := by
  have HP : Hid (∀ W, Calls Tryz.prog 40 #[.string ⟨s.toArray⟩, .string ⟨#[58, 58]⟩] W fun e w' => e = .returned (.bool (absN s)) ∧ W = w') := fun W => by
    have h := Tryz.strings_HasPrefix ⟨s.toArray⟩ ⟨#[58, 58]⟩ W
    rw [show Lib.hasPrefix (⟨s.toArray⟩ : ByteArray).data.toList (⟨#[58, 58]⟩ : ByteArray).data.toList = absN s from abs_lib s] at h
    exact h.mono fun e w' ⟨h1, h2⟩ => ⟨h1, h2.symm⟩
  generalize absN s = b at *
  go_enter Tryz.func18, Tryz.ntmps18
  go_wp2_with (go_at_call 40; refine (HP.out _).mono ?_; rintro e w1 ⟨rfl, rfl⟩)
  go_ret
  exact ⟨rfl, rfl⟩
theorem joinS_any (l : List Bs) (v : Value) (w : World) (ht : TxtRow w v l) (hw : wN l ≤ 1000000000) : Calls Tryz.prog 66 #[v, .string ⟨#[58, 58]⟩] w fun e w' => e = .returned (.string ⟨(joinN l).toArray⟩) ∧ Below w.heap.size w w' := by
  have hl := len_w l
  have hj := join_w l
  obtain ⟨o', cap, rfl, hcc, hcm, hcell⟩ := ht
  rcases Nat.eq_zero_or_pos l.length with h0 | h0
  · have hss : l = [] := List.eq_nil_of_length_eq_zero h0
    subst hss
    exact (Tryz.strings_Join_none o' cap ⟨#[58, 58]⟩ w).mono fun e w' ⟨h1, h2⟩ => ⟨h1, h2 ▸ Below.refl _ _⟩
  · obtain ⟨b, off, rfl, hb, _⟩ := hcell 0 (by simpa using h0)
    have hq : ((l.map fun x => (⟨x.toArray⟩ : ByteArray)).map (·.data.toList)) = l := by rw [List.map_map]; exact (List.map_congr_left fun x _ => rfl).trans (List.map_id l)
    have h := Tryz.strings_Join b off cap (l.map fun x => ⟨x.toArray⟩) ⟨#[58, 58]⟩ w (fun j x hj => by
      have hjl : j < l.length := by
        rcases Nat.lt_or_ge j l.length with h | h
        · exact h
        · rw [List.getElem?_eq_none (by simpa using h)] at hj; cases hj
      obtain ⟨b', off', e, _, hc⟩ := hcell j hjl
      cases e
      rw [hc]
      rw [List.getElem?_map, List.getElem?_eq_getElem hjl] at hj
      cases hj
      simp [sv]) hb (by simp; omega) (by simpa using hcc) (by rw [hq]; show (Lib.join l [58, 58]).length ≤ _; rw [join_lib]; omega)
    rw [hq] at h
    rw [List.length_map] at h
    have h2 : Lib.join l (⟨#[58, 58]⟩ : ByteArray).data.toList = joinN l := join_lib l
    rw [h2] at h
    exact h
theorem joined_any (l : List Bs) (v : Value) (w : World) (ht : TxtRow w v l) (hw : wN l ≤ 1000000000) : Calls Tryz.prog 35 #[v] w fun e w' => e = .returned (.string ⟨(canN l).toArray⟩) ∧ Below w.heap.size w w' := by
  have JO := Lib.hid (joinS_any l v w ht hw)
  have hj := join_w l
  unfold canN
  generalize joinN l = j at *
  have hjl : j.length ≤ 1000000000 := by omega
  clear ht hw hj
  go_enter Tryz.func35, Tryz.ntmps35
  go_wp2_with (go_at_call 66; refine JO.out.mono ?_; rintro e w1 ⟨rfl, hB⟩; have H1 := Lib.hid hB; clear hB)
  go_ret
  refine ⟨?_, H1.out⟩
  show Ending.returned (.string ((⟨([58, 58] : Bs).toArray⟩ : ByteArray) ++ ⟨j.toArray⟩)) = _
  rw [ba_append]; rfl
set_option maxHeartbeats 800000 in
theorem Canonical_any (space path : Bs) (h1 : space.length ≤ 100000) (h2 : path.length ≤ 100000) (w : World) : Calls Tryz.prog 19 #[.string ⟨space.toArray⟩, .string ⟨path.toArray⟩] w fun e w' => e = .returned (.string ⟨(canonN space path).toArray⟩) ∧ Below w.heap.size w w' := by
  have AB : Hid (∀ W, Calls Tryz.prog 18 #[.string ⟨path.toArray⟩] W fun e w' => e = .returned (.bool (absN path)) ∧ W = w') := fun W => Absolute_any path W
  have w1 := parts_w path
  have w2 := parts_w space
  have l1 := len_w (partsN path)
  have l2 := len_w (partsN space)
  have PA : Hid (∀ W, Calls Tryz.prog 34 #[.string ⟨path.toArray⟩] W (PartsR W path)) := fun W => Parts_any path (by omega) W
  have PS : Hid (∀ W, Calls Tryz.prog 34 #[.string ⟨space.toArray⟩] W (PartsR W space)) := fun W => Parts_any space (by omega) W
  have JO : Hid (∀ W v l, wN l ≤ 1000000000 → TxtRow W v l → Calls Tryz.prog 35 #[v] W fun e w' => e = .returned (.string ⟨(canN l).toArray⟩) ∧ Below W.heap.size W w') := fun W v l q ht => joined_any l v W ht q
  have wa := wN_app (partsN space) (partsN path)
  unfold canonN
  cases hb : absN path with
  | true =>
    rw [if_pos rfl]
    rw [hb] at AB
    have HW : Hid (wN (partsN path) ≤ 1000000000) := by show _ ≤ _; omega
    clear hb h1 h2 w1 w2 l1 l2 wa
    go_enter Tryz.func19, Tryz.ntmps19
    go_wp2_with (first | (go_at_call 18; refine (AB.out _).mono ?_; rintro e w1 ⟨rfl, rfl⟩) | (go_at_call 34; refine (PA.out _).mono ?_; rintro e w2 ⟨r, rfl, ho, hB⟩; have H2 := Lib.hid (And.intro hB (TxtRow.of_owns ho)); clear ho hB) | (go_at_call 35; refine (JO.out _ _ _ HW.out H2.out.2).mono ?_; rintro e w3 ⟨rfl, hB⟩; have H3 := Lib.hid (H2.out.1.trans (hB.mono H2.out.1.size)); clear hB))
    go_ret
    exact ⟨rfl, H3.out⟩
  | false =>
    rw [if_neg (by simp)]
    rw [hb] at AB
    have HW : Hid (wN (partsN space ++ partsN path) ≤ 1000000000) := by show _ ≤ _; omega
    have PAT : Hid (∀ W, Calls Tryz.prog 34 #[.string ⟨path.toArray⟩] W fun e w' => ∃ o c, e = .returned (.slice o (partsN path).length c) ∧ TxtRow w' (.slice o (partsN path).length c) (partsN path) ∧ Below W.heap.size W w') := fun W => (PA.out W).mono fun e w' ⟨r, he, ho, hB⟩ => by
      obtain ⟨o, c, rfl⟩ := owns_slice ho
      exact ⟨o, c, he, TxtRow.of_owns ho, hB⟩
    have PST : Hid (∀ W, Calls Tryz.prog 34 #[.string ⟨space.toArray⟩] W fun e w' => ∃ o c, e = .returned (.slice o (partsN space).length c) ∧ w'.ownsRow W.heap.size 9 1 (.slice o (partsN space).length c) (partsN space).length ((partsN space).map sv) ∧ Below W.heap.size W w') := fun W => (PS.out W).mono fun e w' ⟨r, he, ho, hB⟩ => by
      obtain ⟨o, c, rfl⟩ := owns_slice ho
      exact ⟨o, c, he, ho, hB⟩
    have hb1 : (partsN space).length ≤ 1000000 := by omega
    have hb2 : (partsN path).length ≤ 1000000 := by omega
    obtain ⟨ls, hls⟩ : ∃ ls, ls = partsN space := ⟨_, rfl⟩
    obtain ⟨lp, hlp⟩ : ∃ lp, lp = partsN path := ⟨_, rfl⟩
    rw [← hls, ← hlp] at HW ⊢
    rw [← hls] at PST hb1
    rw [← hlp] at PAT hb2
    obtain ⟨n1, hn1⟩ : ∃ n1, ls.length = n1 := ⟨_, rfl⟩
    obtain ⟨n2, hn2⟩ : ∃ n2, lp.length = n2 := ⟨_, rfl⟩
    have HN := Lib.hid (And.intro hn1 hn2)
    rw [hn1] at PST hb1
    rw [hn2] at PAT hb2
    clear hb h1 h2 w1 w2 l1 l2 wa hls hlp hn1 hn2 PA PS
    go_enter Tryz.func19, Tryz.ntmps19
    go_wp2_with (first | (go_at_call 18; refine (AB.out _).mono ?_; rintro e w1 ⟨rfl, rfl⟩) | (go_at_call_of 34 (Value.string ⟨space.toArray⟩); refine (PST.out _).mono ?_; rintro e w2 ⟨o1, c1, rfl, ho, hB⟩; have H2 := Lib.hid (And.intro hB ho); clear ho hB PST) | (go_at_call 34; refine (PAT.out _).mono ?_; rintro e w3 ⟨o2, c2, rfl, ht, hB⟩; have H3 := Lib.hid (And.intro (H2.out.1.trans (hB.mono H2.out.1.size)) (And.intro (ownsRow_kp H2.out.2 (kp_of_below hB) (by simp)) ht)); clear ht hB) | (at_builtin; go_loud (refine wpList_pushRow rfl (.tmp 11) (.tmp 13) 27 rfl w.heap.size 9 (.string ⟨#[]⟩) 16 Tryz.underlying27 infoStr rfl (.slice o1 n1 c1) n1 _ rfl H3.out.2.1 o2 n2 c2 lp rfl H3.out.2.2 (by unfold maxLen; omega) (by omega) H3.out.1.size ?_); intro v4 w4 hown4 hB4; have H4 := Lib.hid (And.intro (H3.out.1.trans hB4) (TxtRow.of_owns (ss := ls ++ lp) (by rw [List.length_append, List.map_append, HN.out.1, HN.out.2]; exact hown4))); clear hown4 hB4) | (go_at_call 35; refine (JO.out _ _ _ HW.out H4.out.2).mono ?_; rintro e w5 ⟨rfl, hB⟩; have H5 := Lib.hid (H4.out.1.trans (hB.mono H4.out.1.size)); clear hB))
    go_ret
    exact ⟨rfl, H5.out⟩
end Go.Proofs.YtjgdfgpnmmkjfaaGreatDoor

/- NamesPaths: the reference: of, Canonical, Head, Tail. -/
import Derived.Test.YtjgdfgpnmmkjfaaGreatDoorNRef2
namespace Go.Proofs.YtjgdfgpnmmkjfaaGreatDoor
set_option linter.unusedVariables false
set_option linter.unusedSimpArgs false
open Go.RowKit

def ofN : List Bs → Bs
  | [] => []
  | p :: r => 58 :: 58 :: (p ++ ofN r)
theorem of_can : ∀ l : List Bs, l ≠ [] → ofN l = canN l
  | [], h => absurd rfl h
  | [p], _ => by simp [ofN, canN, joinN]
  | p :: q :: r, _ => by
    have h := of_can (q :: r) (by simp)
    have e : joinN (p :: q :: r) = p ++ 58 :: 58 :: joinN (q :: r) := by
      rw [joinN]
      simp
    rw [ofN, h, canN, canN, e]
theorem of_app (a b : List Bs) : ofN (a ++ b) = ofN a ++ ofN b := by
  induction a with
  | nil => rfl
  | cons x r ih => simp only [List.cons_append, ofN, ih, List.append_assoc]
theorem of_w : ∀ l : List Bs, (ofN l).length ≤ wN l
  | [] => Nat.le_refl _
  | p :: r => by have h := of_w r; simp only [ofN, wN, List.length_cons, List.length_append]; omega
theorem wN_take (l : List Bs) (k : Nat) : wN (l.take k) ≤ wN l := by
  have h := wN_app (l.take k) (l.drop k)
  rw [List.take_append_drop] at h
  omega
theorem wN_mem {l : List Bs} {x : Bs} (h : x ∈ l) : x.length ≤ wN l := by
  induction l with
  | nil => cases h
  | cons y r ih =>
    simp only [wN]
    rcases List.mem_cons.1 h with rfl | h
    · omega
    · have := ih h; omega
set_option maxRecDepth 100000 in
set_option maxHeartbeats 800000 in
theorem of_any (l : List Bs) (v : Value) (w : World) (ht : TxtRow w v l) (hw : wN l ≤ 1000000000) : Calls Tryz.prog 57 #[v] w fun e w' => e = .returned (.string ⟨(canN l).toArray⟩) ∧ Below w.heap.size w w' := by
  obtain ⟨o, c, rfl⟩ := ht.len
  obtain ⟨_, h1, h2, h3⟩ := ht.at_
  have HT := Lib.hid h3
  have HW := Lib.hid hw
  have hl := len_w l
  obtain ⟨n, hn⟩ : ∃ n, l.length = n := ⟨_, rfl⟩
  have HN := Lib.hid hn
  rw [hn] at hl h1 ⊢
  have hn1 : n ≤ 1000000000 := by omega
  unfold maxLen at h2
  clear ht h3 hw hl hn
  go_enter Tryz.func57, Tryz.ntmps57
  go_wp2_with fail
  go_loopg [3, 8] n (fun g out i wr => ∃ (k : Nat) (acc : Bs), k + g = n ∧ i = .int .i64 (k : Int) ∧ out = .string ⟨acc.toArray⟩ ∧ acc.length ≤ 1000000000 ∧ Hid (acc = ofN (l.take k)) ∧ w = wr)
  case atStart => exact ⟨0, [], by omega, rfl, rfl, by simp, rfl, rfl⟩
  case round =>
    obtain ⟨k, acc, hkg, rfl, rfl, hal, HA, rfl⟩ := hrel
    have hn := HN.out
    by_cases hlt : k < n
    · obtain ⟨g0, f0, rfl, hl0, hc⟩ := HT.out k (by omega)
      have hpl := wN_mem (List.getElem_mem (l := l) (n := k) (by omega))
      have hww := HW.out
      have HS : Hid (ofN (l.take (k + 1)) = acc ++ (58 :: 58 :: l[k]'(by omega))) := by
        show _ = _
        rw [List.take_succ_eq_append_getElem (by omega), of_app, ← HA.out]; simp [ofN]
      have hSl := of_w (l.take (k + 1))
      have hSw := wN_take l (k + 1)
      rw [HS.out] at hSl
      generalize l[k]'(by omega) = p at *
      have hcx : w.cell? ⟨g0, f0 + k, none⟩ = some (.string ⟨p.toArray⟩) := hc
      have hp1 : p.length ≤ 1000000000 := by omega
      have hsl : (acc ++ (58 :: 58 :: p)).length ≤ 1000000000 := by omega
      have HG := Lib.hid (And.intro hkg hsl)
      clear hSl hSw hww hpl hc hkg hn hsl
      go_wp2_with fail
      go_roundg (gk - 1)
      case measure => have := HG.out; omega
      case rel =>
        have h9 := HG.out
        refine ⟨k + 1, acc ++ (58 :: 58 :: p), by omega, by push_cast; rfl, ?_, h9.2, HS.out.symm, rfl⟩
        show Value.string ((⟨acc.toArray⟩ : ByteArray) ++ ((⟨([58, 58] : Bs).toArray⟩ : ByteArray) ++ ⟨p.toArray⟩)) = _
        rw [ba_append, ba_append]; rfl
    · obtain rfl : k = n := by omega
      have t0 : decide ((k : Int) < (k : Int)) = false := by rw [decide_eq_false_iff_not]; omega
      have h5 := HA.out
      rw [List.take_of_length_le (by omega)] at h5
      by_cases he : l = []
      · have ha : acc = [] := by rw [h5, he]; rfl
        have HR : Hid (canN l = [58, 58]) := by show _ = _; rw [he]; rfl
        subst ha
        clear HA h5 he hn hkg hlt
        go_wp2_with fail
        go_ret
        exact ⟨by rw [HR.out]; rfl, Below.refl _ _⟩
      · have HR : Hid (canN l = acc) := by show _ = _; rw [h5]; exact (of_can l he).symm
        have ha : acc ≠ [] := by
          rw [h5, of_can l he]; simp [canN]
        have hne : (⟨acc.toArray⟩ : ByteArray) ≠ ⟨#[]⟩ := fun e => ha (by simpa using e)
        have hne2 : (acc == []) = false := beq_eq_false_iff_ne.2 ha
        clear HA h5 he hn hkg hlt
        go_wp2_with fail
        go_ret
        exact ⟨by rw [HR.out]; rfl, Below.refl _ _⟩
set_option maxHeartbeats 800000 in
theorem rCanonical_any (space path : Bs) (h1 : space.length ≤ 100000) (h2 : path.length ≤ 100000) (w : World) : Calls Tryz.prog 58 #[.string ⟨space.toArray⟩, .string ⟨path.toArray⟩] w fun e w' => e = .returned (.string ⟨(canonN space path).toArray⟩) ∧ Below w.heap.size w w' := by
  have AB : Hid (∀ W, Calls Tryz.prog 79 #[.string ⟨path.toArray⟩] W fun e w' => e = .returned (.bool (absN path)) ∧ W = w') := fun W => rAbsolute_any path (by omega) W
  have w1 := parts_w path
  have w2 := parts_w space
  have l1 := len_w (partsN path)
  have l2 := len_w (partsN space)
  have PA : Hid (∀ W, Calls Tryz.prog 55 #[.string ⟨path.toArray⟩] W (PartsR W path)) := fun W => rParts_any path (by omega) W
  have PS : Hid (∀ W, Calls Tryz.prog 55 #[.string ⟨space.toArray⟩] W (PartsR W space)) := fun W => rParts_any space (by omega) W
  have JO : Hid (∀ W v l, wN l ≤ 1000000000 → TxtRow W v l → Calls Tryz.prog 57 #[v] W fun e w' => e = .returned (.string ⟨(canN l).toArray⟩) ∧ Below W.heap.size W w') := fun W v l q ht => of_any l v W ht q
  have wa := wN_app (partsN space) (partsN path)
  unfold canonN
  cases hb : absN path with
  | true =>
    rw [if_pos rfl]
    rw [hb] at AB
    have HW : Hid (wN (partsN path) ≤ 1000000000) := by show _ ≤ _; omega
    clear hb h1 h2 w1 w2 l1 l2 wa
    go_enter Tryz.func58, Tryz.ntmps58
    go_wp2_with (first | (go_at_call 79; refine (AB.out _).mono ?_; rintro e w1 ⟨rfl, rfl⟩) | (go_at_call 55; refine (PA.out _).mono ?_; rintro e w2 ⟨r, rfl, ho, hB⟩; have H2 := Lib.hid (And.intro hB (TxtRow.of_owns ho)); clear ho hB) | (go_at_call 57; refine (JO.out _ _ _ HW.out H2.out.2).mono ?_; rintro e w3 ⟨rfl, hB⟩; have H3 := Lib.hid (H2.out.1.trans (hB.mono H2.out.1.size)); clear hB))
    go_ret
    exact ⟨rfl, H3.out⟩
  | false =>
    rw [if_neg (by simp)]
    rw [hb] at AB
    have HW : Hid (wN (partsN space ++ partsN path) ≤ 1000000000) := by show _ ≤ _; omega
    have PAT : Hid (∀ W, Calls Tryz.prog 55 #[.string ⟨path.toArray⟩] W fun e w' => ∃ o c, e = .returned (.slice o (partsN path).length c) ∧ TxtRow w' (.slice o (partsN path).length c) (partsN path) ∧ Below W.heap.size W w') := fun W => (PA.out W).mono fun e w' ⟨r, he, ho, hB⟩ => by
      obtain ⟨o, c, rfl⟩ := owns_slice ho
      exact ⟨o, c, he, TxtRow.of_owns ho, hB⟩
    have PST : Hid (∀ W, Calls Tryz.prog 55 #[.string ⟨space.toArray⟩] W fun e w' => ∃ o c, e = .returned (.slice o (partsN space).length c) ∧ w'.ownsRow W.heap.size 9 1 (.slice o (partsN space).length c) (partsN space).length ((partsN space).map sv) ∧ Below W.heap.size W w') := fun W => (PS.out W).mono fun e w' ⟨r, he, ho, hB⟩ => by
      obtain ⟨o, c, rfl⟩ := owns_slice ho
      exact ⟨o, c, he, ho, hB⟩
    have hb1 : (partsN space).length ≤ 1000000 := by omega
    have hb2 : (partsN path).length ≤ 1000000 := by omega
    obtain ⟨ls, hls⟩ : ∃ ls, ls = partsN space := ⟨_, rfl⟩
    obtain ⟨lp, hlp⟩ : ∃ lp, lp = partsN path := ⟨_, rfl⟩
    rw [← hls, ← hlp] at HW ⊢
    rw [← hls] at PST hb1
    rw [← hlp] at PAT hb2
    obtain ⟨n1, hn1⟩ : ∃ n1, ls.length = n1 := ⟨_, rfl⟩
    obtain ⟨n2, hn2⟩ : ∃ n2, lp.length = n2 := ⟨_, rfl⟩
    have HN := Lib.hid (And.intro hn1 hn2)
    rw [hn1] at PST hb1
    rw [hn2] at PAT hb2
    clear hb h1 h2 w1 w2 l1 l2 wa hls hlp hn1 hn2 PA PS
    go_enter Tryz.func58, Tryz.ntmps58
    go_wp2_with (first | (go_at_call 79; refine (AB.out _).mono ?_; rintro e w1 ⟨rfl, rfl⟩) | (go_at_call_of 55 (Value.string ⟨space.toArray⟩); refine (PST.out _).mono ?_; rintro e w2 ⟨o1, c1, rfl, ho, hB⟩; have H2 := Lib.hid (And.intro hB ho); clear ho hB PST) | (go_at_call 55; refine (PAT.out _).mono ?_; rintro e w3 ⟨o2, c2, rfl, ht, hB⟩; have H3 := Lib.hid (And.intro (H2.out.1.trans (hB.mono H2.out.1.size)) (And.intro (ownsRow_kp H2.out.2 (kp_of_below hB) (by simp)) ht)); clear ht hB) | (at_builtin; go_loud (refine wpList_pushRow rfl (.tmp 11) (.tmp 13) 27 rfl w.heap.size 9 (.string ⟨#[]⟩) 16 Tryz.underlying27 infoStr rfl (.slice o1 n1 c1) n1 _ rfl H3.out.2.1 o2 n2 c2 lp rfl H3.out.2.2 (by unfold maxLen; omega) (by omega) H3.out.1.size ?_); intro v4 w4 hown4 hB4; have H4 := Lib.hid (And.intro (H3.out.1.trans hB4) (TxtRow.of_owns (ss := ls ++ lp) (by rw [List.length_append, List.map_append, HN.out.1, HN.out.2]; exact hown4))); clear hown4 hB4) | (go_at_call 57; refine (JO.out _ _ _ HW.out H4.out.2).mono ?_; rintro e w5 ⟨rfl, hB⟩; have H5 := Lib.hid (H4.out.1.trans (hB.mono H4.out.1.size)); clear hB))
    go_ret
    exact ⟨rfl, H5.out⟩
end Go.Proofs.YtjgdfgpnmmkjfaaGreatDoor

/- The reference's 'sorted', 'Sorted', 'every', 'Names', 'Hidden'. The reference's 'every', 'Names', 'Hidden'. -/
import Derived.Test.YtbbbenjakjejmaaGreatTbRd3
import Derived.Test.YtbbbenjakjejmaaGreatGlobLaw
namespace Go.Proofs.YtbbbenjakjejmaaGreat
set_option linter.unusedVariables false
set_option linter.unusedSimpArgs false
open Go.RowKit Go.MapKept Go.WideMaps
/-- A text put into a row of texts. -/
def insR (s : Bs) : List Bs → List Bs
  | [] => [s]
  | x :: t => if s ≤ x then (if s = x then x :: t else s :: x :: t) else x :: insR s t
theorem insR_len (s : Bs) : ∀ l, (insR s l).length ≤ l.length + 1
  | [] => by simp [insR]
  | x :: t => by
    unfold insR
    have := insR_len s t
    split
    · split <;> simp
    · simp only [List.length_cons]; omega
theorem insR_perm (s : Bs) : ∀ l, s ∉ l → (insR s l).Perm (s :: l)
  | [], _ => by simp [insR]
  | x :: t, h => by
    unfold insR
    simp only [List.mem_cons, not_or] at h
    split
    · rw [if_neg h.1]
    · exact (List.Perm.cons x (insR_perm s t h.2)).trans (List.Perm.swap s x t)
theorem insR_sorted (s : Bs) : ∀ l, l.Pairwise (fun a b : Bs => a ≤ b) → (insR s l).Pairwise (fun a b : Bs => a ≤ b)
  | [], _ => by simp [insR]
  | x :: t, h => by
    unfold insR
    rw [List.pairwise_cons] at h
    split
    · rename_i hs
      split
      · exact List.pairwise_cons.2 h
      · refine List.pairwise_cons.2 ⟨fun y hy => ?_, List.pairwise_cons.2 h⟩
        rcases List.mem_cons.1 hy with rfl | hy
        · exact hs
        · exact List.le_trans hs (h.1 y hy)
    · rename_i hs
      have hx : x ≤ s := by rcases List.le_total x s with h | h; exact h; exact absurd h hs
      refine List.pairwise_cons.2 ⟨fun y hy => ?_, insR_sorted s t h.2⟩
      by_cases hm : s ∈ t
      · have hsub : ∀ (t : List Bs) y, y ∈ insR s t → y = s ∨ y ∈ t := by
          intro t
          induction t with
          | nil => intro y hy; simpa [insR] using hy
          | cons z t ih =>
            intro y hy
            unfold insR at hy
            split at hy
            · split at hy
              · exact .inr hy
              · rcases List.mem_cons.1 hy with h | h
                · exact .inl h
                · exact .inr h
            · rcases List.mem_cons.1 hy with h | h
              · exact .inr (List.mem_cons.2 (.inl h))
              · rcases ih y h with h | h
                · exact .inl h
                · exact .inr (List.mem_cons.2 (.inr h))
        rcases hsub t y hy with rfl | h3
        · exact hx
        · exact h.1 y h3
      · rcases List.mem_cons.1 ((insR_perm s t hm).mem_iff.1 hy) with rfl | h3
        · exact hx
        · exact h.1 y h3
def sortR (l : List Bs) : List Bs := l.foldl (fun a s => insR s a) []
theorem sortR_snoc (l : List Bs) (s : Bs) : sortR (l ++ [s]) = insR s (sortR l) := by simp [sortR]
theorem sortR_len : ∀ (l : List Bs) (a : List Bs), (l.foldl (fun a s => insR s a) a).length ≤ l.length + a.length
  | [], a => by simp
  | s :: l, a => by
    have h1 := sortR_len l (insR s a)
    have h2 := insR_len s a
    simp only [List.foldl_cons, List.length_cons]
    omega
theorem sortR_all : ∀ (l a : List Bs), (a ++ l).Nodup → a.Pairwise (fun a b : Bs => a ≤ b) → (l.foldl (fun a s => insR s a) a).Perm (a ++ l) ∧ (l.foldl (fun a s => insR s a) a).Pairwise (fun a b : Bs => a ≤ b)
  | [], a, _, h => ⟨by simp, h⟩
  | s :: l, a, hn, h => by
    have hs : s ∉ a := fun hm => by
      rw [List.nodup_append] at hn
      exact hn.2.2 s hm s (by simp) rfl
    have hp := insR_perm s a hs
    have hp2 : (insR s a ++ l).Perm (a ++ s :: l) := (hp.append_right l).trans (by simpa using (List.perm_middle (a := s) (l₁ := a) (l₂ := l)).symm)
    obtain ⟨h1, h2⟩ := sortR_all l (insR s a) (hp2.nodup_iff.2 hn) (insR_sorted s a h)
    exact ⟨h1.trans hp2, h2⟩
theorem sortR_eq {l : List Bs} (hn : l.Nodup) : sortR l = srt l := by
  obtain ⟨h1, h2⟩ := sortR_all l [] (by simpa using hn) List.Pairwise.nil
  have h3 : (srt l).Pairwise (fun a b : Bs => a ≤ b) := by
    have := List.pairwise_mergeSort (le := fun x y : Bs => decide (x ≤ y)) (fun a b c h k => by simp only [decide_eq_true_eq] at *; exact List.le_trans h k) (fun a b => by rcases List.le_total a b with h | h <;> simp [h]) l
    exact this.imp (fun {a b} h => by simpa using h)
  exact ((show (sortR l).Perm l from by unfold sortR; simpa using h1).trans (srt_perm l).symm).eq_of_pairwise (fun a b _ _ h k => List.le_antisymm h k) h2 h3
set_option maxRecDepth 100000 in
set_option maxHeartbeats 1600000 in
theorem sorted_any0 {w : World} {v : Value} {ss : List Bs} (hv : TxtRow w v ss) (hl : ss.length ≤ 200000) (s : Bs) (hs : s.length ≤ 1000000) (hsl : ∀ x ∈ ss, x.length ≤ 1000000) :
    Calls Tryz.prog 86 #[v, .string ⟨s.toArray⟩] w fun e w' => ∃ vo, e = .returned vo ∧ w'.ownsRow w.heap.size 9 1 vo (insR s ss).length ((insR s ss).map sv) ∧ Below w.heap.size w w' := by
  obtain ⟨o, c, rfl, h2, h3, h4⟩ := hv
  have H := Lib.hid h4
  obtain ⟨N, hN⟩ : ∃ N, ss.length = N := ⟨_, rfl⟩
  have HN := Lib.hid (And.intro hN hsl)
  rw [hN] at hl ⊢
  clear h2 h3 h4 hN hsl
  go_enter Tryz.func86, Tryz.ntmps86
  go_wp2_with fail
  go_loopw [5, 6, 11] (fun vo pv i wr => ∃ (k : Nat) (acc : List Bs) (p : Bool), k ≤ N ∧ i = .int .i64 (k : Int) ∧ pv = .bool p ∧ wr.ownsRow w.heap.size 9 1 vo acc.length (acc.map sv) ∧ acc ++ (if p = true then ss.drop k else insR s (ss.drop k)) = insR s ss ∧ acc.length ≤ k + p.toNat ∧ Below w.heap.size w wr) (fun _ _ i _ => N - (intOf i).toNat)
  case atStart => exact ⟨0, [], false, Nat.zero_le _, rfl, rfl, ⟨rfl, .inl ⟨rfl, rfl⟩⟩, by simp, by simp, Below.refl _ _⟩
  case round =>
    obtain ⟨k, acc, p, hk, rfl, rfl, hrow, hacc, hal, hB⟩ := hrel
    obtain ⟨an, han⟩ : ∃ an, acc.length = an := ⟨_, rfl⟩
    rw [han] at hrow hal
    have hal2 : an ≤ k + 1 := by have := Bool.toNat_le p; omega
    obtain ⟨oo, oc, rfl⟩ := row_shape hrow
    by_cases hlt : k < N
    · have hkl : k < ss.length := by have := HN.out.1; omega
      obtain ⟨b, off, rfl, hbl, hcb⟩ := H.out k hkl
      have hd : ss.drop k = ss[k] :: ss.drop (k + 1) := List.drop_eq_getElem_cons hkl
      have d0 := (hB.cell (p := ⟨b, off + k, none⟩) hbl).trans hcb
      unfold sv at d0
      have hxl := HN.out.2 ss[k] (List.getElem_mem _)
      generalize ss[k] = x at *
      have i1 : k < N := hlt
      have hw1 : IntKind.i64.wrap ((k : Int) + 1) = (k : Int) + 1 := IntWalk.i64_in _ (by omega)
      have HB := Lib.hid (And.intro hB (And.intro hrow (And.intro hlt (And.intro hacc (And.intro hd (And.intro han hal))))))
      clear hkl hB hk hlt hrow hacc hd hcb hbl han
      cases p with
      | true =>
        go_wp2_with (at_builtin; (refine wpList_push1 rfl (.tmp 29) (.tmp 31) 56 rfl w.heap.size 9 (.string ⟨#[]⟩) 16 Tryz.underlying56 infoStr rfl (.slice oo an oc) an _ rfl HB.out.2.1 (.string ⟨x.toArray⟩) _ rfl rfl rfl (by unfold maxLen; omega) (by omega) (by exact HB.out.1.size) ?_); intro p1g p1c p1w p1hg p1hown p1hk p1hl; have Hp1 := Lib.hid (And.intro p1hown (p1hk.below HB.out.1.size (fun d hd => (row_ids HB.out.2.1 d (by simpa using hd)).1))); clear p1hg p1hown p1hk p1hl)
        refine ⟨⟨k + 1, acc ++ [x], true, by have := HB.out.2.2.1; omega, by go_num, rfl, ?_, ?_, ?_, HB.out.1.trans Hp1.out.2⟩, by have := HB.out.2.2.1; simp [intOf]; omega⟩
        · have h := Hp1.out.1; simpa [sv, HB.out.2.2.2.2.2.1] using h
        · have h := HB.out.2.2.2.1; rw [HB.out.2.2.2.2.1] at h; simpa using h
        · have h1 := HB.out.2.2.2.2.2.2; have h2 := HB.out.2.2.2.2.2.1; simp [Bool.toNat] at h1 ⊢; omega
      | false =>
        by_cases hle : s ≤ x
        · by_cases hsx : s = x
          · subst hsx
            have b1 : (s == s) = true := beq_self_eq_true s
            have hi : insR s (s :: ss.drop (k + 1)) = s :: ss.drop (k + 1) := by unfold insR; rw [if_pos hle, if_pos rfl]
            have HI := Lib.hid hi
            clear hi hle
            go_wp2_with (at_builtin; (refine wpList_push1 rfl (.tmp 29) (.tmp 31) 56 rfl w.heap.size 9 (.string ⟨#[]⟩) 16 Tryz.underlying56 infoStr rfl (.slice oo an oc) an _ rfl HB.out.2.1 (.string ⟨s.toArray⟩) _ rfl rfl rfl (by unfold maxLen; omega) (by omega) (by exact HB.out.1.size) ?_); intro p1g p1c p1w p1hg p1hown p1hk p1hl; have Hp1 := Lib.hid (And.intro p1hown (p1hk.below HB.out.1.size (fun d hd => (row_ids HB.out.2.1 d (by simpa using hd)).1))); clear p1hg p1hown p1hk p1hl)
            refine ⟨⟨k + 1, acc ++ [s], true, by have := HB.out.2.2.1; omega, by go_num, rfl, ?_, ?_, ?_, HB.out.1.trans Hp1.out.2⟩, by have := HB.out.2.2.1; simp [intOf]; omega⟩
            · have h := Hp1.out.1; simpa [sv, HB.out.2.2.2.2.2.1] using h
            · have h := HB.out.2.2.2.1; rw [HB.out.2.2.2.2.1] at h; simpa [HI.out] using h
            · have h1 := HB.out.2.2.2.2.2.2; have h2 := HB.out.2.2.2.2.2.1; simp [Bool.toNat] at h1 ⊢; omega
          · have b1 : (s == x) = false := beq_eq_false_iff_ne.2 hsx
            have b2 : Op.bytesLess s x = true := by rw [Go.Proofs.bytesLess_eq, decide_eq_true_eq]; rcases List.le_iff_lt_or_eq.1 hle with h | h; exact h; exact absurd h hsx
            have hi : insR s (x :: ss.drop (k + 1)) = s :: x :: ss.drop (k + 1) := by unfold insR; rw [if_pos hle, if_neg hsx]
            have HI := Lib.hid hi
            clear hi hle hsx
            go_wp2_with (first | (at_builtin; (refine wpList_push1 rfl (.tmp 25) (.tmp 27) 56 rfl w.heap.size 9 (.string ⟨#[]⟩) 16 Tryz.underlying56 infoStr rfl (.slice oo an oc) an _ rfl HB.out.2.1 (.string ⟨s.toArray⟩) _ rfl rfl rfl (by unfold maxLen; omega) (by omega) (by exact HB.out.1.size) ?_); intro p2g p2c p2w p2hg p2hown p2hk p2hl; have Hp2 := Lib.hid (And.intro p2hown (p2hk.below HB.out.1.size (fun d hd => (row_ids HB.out.2.1 d (by simpa using hd)).1))); clear p2hg p2hown p2hk p2hl) | (at_builtin; (refine wpList_push1 rfl (.tmp 29) (.tmp 31) 56 rfl w.heap.size 9 (.string ⟨#[]⟩) 16 Tryz.underlying56 infoStr rfl (.slice (some ⟨p2g, 0, none⟩) (an + 1) p2c) (an + 1) _ rfl Hp2.out.1 (.string ⟨x.toArray⟩) _ rfl rfl rfl (by unfold maxLen; omega) (by omega) (by exact (HB.out.1.trans Hp2.out.2).size) ?_); intro p1g p1c p1w p1hg p1hown p1hk p1hl; have Hp1 := Lib.hid (And.intro p1hown (p1hk.below (HB.out.1.trans Hp2.out.2).size (fun d hd => (row_ids Hp2.out.1 d (by simpa using hd)).1))); clear p1hg p1hown p1hk p1hl))
            refine ⟨⟨k + 1, acc ++ [s, x], true, by have := HB.out.2.2.1; omega, by go_num, rfl, ?_, ?_, ?_, (HB.out.1.trans Hp2.out.2).trans Hp1.out.2⟩, by have := HB.out.2.2.1; simp [intOf]; omega⟩
            · have h := Hp1.out.1; simpa [sv, HB.out.2.2.2.2.2.1] using h
            · have h := HB.out.2.2.2.1; rw [HB.out.2.2.2.2.1] at h; simpa [HI.out] using h
            · have h1 := HB.out.2.2.2.2.2.2; have h2 := HB.out.2.2.2.2.2.1; simp [Bool.toNat] at h1 ⊢; omega
        · have hlt2 : ¬ s < x := fun h => hle (List.le_of_lt h)
          have hsx : ¬ s = x := fun h => hle (by rw [h]; exact List.le_refl x)
          have b1 : (s == x) = false := beq_eq_false_iff_ne.2 hsx
          have b2 : Op.bytesLess s x = false := by rw [Go.Proofs.bytesLess_eq, decide_eq_false_iff_not]; exact hlt2
          have hi : insR s (x :: ss.drop (k + 1)) = x :: insR s (ss.drop (k + 1)) := by rw [insR.eq_2, if_neg hle]
          have HI := Lib.hid hi
          clear hi hle hsx hlt2
          go_wp2_with (at_builtin; (refine wpList_push1 rfl (.tmp 29) (.tmp 31) 56 rfl w.heap.size 9 (.string ⟨#[]⟩) 16 Tryz.underlying56 infoStr rfl (.slice oo an oc) an _ rfl HB.out.2.1 (.string ⟨x.toArray⟩) _ rfl rfl rfl (by unfold maxLen; omega) (by omega) (by exact HB.out.1.size) ?_); intro p1g p1c p1w p1hg p1hown p1hk p1hl; have Hp1 := Lib.hid (And.intro p1hown (p1hk.below HB.out.1.size (fun d hd => (row_ids HB.out.2.1 d (by simpa using hd)).1))); clear p1hg p1hown p1hk p1hl)
          refine ⟨⟨k + 1, acc ++ [x], false, by have := HB.out.2.2.1; omega, by go_num, rfl, ?_, ?_, ?_, HB.out.1.trans Hp1.out.2⟩, by have := HB.out.2.2.1; simp [intOf]; omega⟩
          · have h := Hp1.out.1; simpa [sv, HB.out.2.2.2.2.2.1] using h
          · have h := HB.out.2.2.2.1; rw [HB.out.2.2.2.2.1] at h; simpa [HI.out] using h
          · have h1 := HB.out.2.2.2.2.2.2; have h2 := HB.out.2.2.2.2.2.1; simp [Bool.toNat] at h1 ⊢; omega
    · obtain rfl : k = N := by omega
      have i1 : decide ((k : Int) < (k : Int)) = false := by rw [decide_eq_false_iff_not]; omega
      have hd : ss.drop k = [] := List.drop_eq_nil_of_le (by have := HN.out.1; omega)
      rw [hd] at hacc
      have HB := Lib.hid (And.intro hB (And.intro hrow (And.intro hacc han)))
      clear hB hk hlt hrow hacc hd han
      cases p with
      | true =>
        go_wp2_with fail
        go_ret
        refine ⟨_, rfl, ?_, HB.out.1⟩
        have h : acc = insR s ss := by simpa using HB.out.2.2.1
        rw [← h, HB.out.2.2.2]
        exact HB.out.2.1
      | false =>
        go_wp2_with (at_builtin; (refine wpList_push1 rfl (.tmp 36) (.tmp 38) 56 rfl w.heap.size 9 (.string ⟨#[]⟩) 16 Tryz.underlying56 infoStr rfl (.slice oo an oc) an _ rfl HB.out.2.1 (.string ⟨s.toArray⟩) _ rfl rfl rfl (by unfold maxLen; omega) (by omega) (by exact HB.out.1.size) ?_); intro p3g p3c p3w p3hg p3hown p3hk p3hl; have Hp3 := Lib.hid (And.intro p3hown (p3hk.below HB.out.1.size (fun d hd => (row_ids HB.out.2.1 d (by simpa using hd)).1))); clear p3hg p3hown p3hk p3hl)
        go_ret
        refine ⟨_, rfl, ?_, HB.out.1.trans Hp3.out.2⟩
        have h : acc ++ [s] = insR s ss := by simpa [insR] using HB.out.2.2.1
        rw [← h]
        have h2 := Hp3.out.1
        simpa [sv, HB.out.2.2.2] using h2
set_option maxRecDepth 100000 in
set_option maxHeartbeats 800000 in
theorem rSorted_any {w : World} {v : Value} {ss : List Bs} (hv : TxtRow w v ss) (hl : ss.length ≤ 100000) (hsl : ∀ x ∈ ss, x.length ≤ 1000000) :
    Calls Tryz.prog 67 #[v] w fun e w' => ∃ vo, e = .returned vo ∧ TxtRow w' vo (sortR ss) ∧ Below w.heap.size w w' := by
  obtain ⟨o, c, rfl, h2, h3, h4⟩ := hv
  have H := Lib.hid h4
  have SO : Hid (∀ W v k x, TxtRow W v (sortR (ss.take k)) → k ≤ ss.length → x ∈ ss → Calls Tryz.prog 86 #[v, .string ⟨x.toArray⟩] W fun e w' => ∃ vo, e = .returned vo ∧ TxtRow w' vo (insR x (sortR (ss.take k))) ∧ Below W.heap.size W w') := fun W v k x h hk hx => by
    have hlen := sortR_len (ss.take k) []
    simp only [List.length_take, List.length_nil] at hlen
    refine (sorted_any0 h (by unfold sortR; omega) x (hsl x hx) (fun y hy => ?_)).mono fun e w' ⟨vo, he, hr, hb⟩ => ⟨vo, he, TxtRow.of_owns hr, hb⟩
    have hsub : ∀ (m a : List Bs) y, y ∈ m.foldl (fun a s => insR s a) a → y ∈ m ∨ y ∈ a := by
      intro m
      induction m with
      | nil => intro a y hy; exact .inr hy
      | cons z m ih =>
        intro a y hy
        rcases ih _ _ hy with h | h
        · exact .inl (List.mem_cons.2 (.inr h))
        · have hins : ∀ (t : List Bs) y, y ∈ insR z t → y = z ∨ y ∈ t := by
            intro t
            induction t with
            | nil => intro y hy; simpa [insR] using hy
            | cons u t ih =>
              intro y hy
              unfold insR at hy
              split at hy
              · split at hy
                · exact .inr hy
                · rcases List.mem_cons.1 hy with h | h
                  · exact .inl h
                  · exact .inr h
              · rcases List.mem_cons.1 hy with h | h
                · exact .inr (List.mem_cons.2 (.inl h))
                · rcases ih y h with h | h
                  · exact .inl h
                  · exact .inr (List.mem_cons.2 (.inr h))
          rcases hins a y h with rfl | h
          · exact .inl (by simp)
          · exact .inr h
    rcases hsub _ _ y hy with h | h
    · exact hsl y (List.mem_of_mem_take h)
    · cases h
  obtain ⟨N, hN⟩ : ∃ N, ss.length = N := ⟨_, rfl⟩
  have HN := Lib.hid hN
  rw [hN] at hl ⊢
  clear h2 h3 h4 hN hsl
  go_enter Tryz.func67, Tryz.ntmps67
  go_wp2_with fail
  go_loopw [3, 8] (fun vo i wr => ∃ k : Nat, k ≤ N ∧ i = .int .i64 (k : Int) ∧ TxtRow wr vo (sortR (ss.take k)) ∧ Below w.heap.size w wr) (fun _ i _ => N - (intOf i).toNat)
  case atStart => exact ⟨0, Nat.zero_le _, rfl, ⟨none, 0, rfl, by simp [sortR], by unfold maxLen; omega, fun i hi => by simp [sortR] at hi⟩, Below.refl _ _⟩
  case round =>
    obtain ⟨k, hk, rfl, hrow, hB⟩ := hrel
    by_cases hlt : k < N
    · have hkl : k < ss.length := by have := HN.out; omega
      obtain ⟨b, off, rfl, hbl, hcb⟩ := H.out k hkl
      have hx : ss.take (k + 1) = ss.take k ++ [ss[k]] := by rw [List.take_add_one, List.getElem?_eq_getElem hkl]; rfl
      have d0 := (hB.cell (p := ⟨b, off + k, none⟩) hbl).trans hcb
      unfold sv at d0
      have SK := Lib.hid (SO.out wr _ k ss[k] hrow (by omega) (List.getElem_mem _))
      generalize ss[k] = x at *
      have i1 : k < N := hlt
      have hw1 : IntKind.i64.wrap ((k : Int) + 1) = (k : Int) + 1 := IntWalk.i64_in _ (by omega)
      have HB := Lib.hid (And.intro hB (And.intro hlt hx))
      clear hkl hB hk hlt hrow hx hcb hbl
      go_wp2_with (go_at_call 86; refine SK.out.mono ?_; rintro e w2 ⟨vo2, rfl, hr, hb⟩; have H2 := Lib.hid (And.intro hr hb); clear hr hb)
      exact ⟨⟨k + 1, by have := HB.out.2.1; omega, by go_num, by rw [HB.out.2.2, sortR_snoc]; exact H2.out.1, HB.out.1.trans (H2.out.2.mono HB.out.1.size)⟩, by have := HB.out.2.1; simp [intOf]; omega⟩
    · obtain rfl : k = N := by omega
      have i1 : decide ((k : Int) < (k : Int)) = false := by rw [decide_eq_false_iff_not]; omega
      rw [List.take_of_length_le (by have := HN.out; omega)] at hrow
      have HB := Lib.hid (And.intro hB hrow)
      clear hB hk hlt hrow
      go_wp2_with fail
      go_ret
      exact ⟨_, rfl, HB.out.2, HB.out.1⟩
end Go.Proofs.YtbbbenjakjejmaaGreat
namespace Go.Proofs.YtbbbenjakjejmaaGreat
set_option linter.unusedVariables false
set_option linter.unusedSimpArgs false
open Go.RowKit Go.MapKept Go.WideMaps
def hitP (pat : Bs) (hid : Bool) (r : RC) : Bool := r.there && (r.hid == hid) && qB pat r.name
def enR (l : List RC) (pat : Bs) (hid : Bool) (k : Nat) : List Bs := ((l.take k).filter (hitP pat hid)).map (·.name)
theorem enR_snoc {l : List RC} {pat : Bs} {hid : Bool} {k : Nat} {r : RC} (h : l[k]? = some r) : enR l pat hid (k + 1) = enR l pat hid k ++ (if hitP pat hid r = true then [r.name] else []) := by
  unfold enR
  rw [List.take_add_one, h, List.filter_append, List.map_append]
  congr 1
  by_cases hp : hitP pat hid r = true <;> simp [List.filter_cons, hp]
theorem enR_len (l : List RC) (pat : Bs) (hid : Bool) (k : Nat) : (enR l pat hid k).length ≤ k := by
  unfold enR
  rw [List.length_map]
  have := List.length_filter_le (hitP pat hid) (l.take k)
  have h2 := List.length_take_le k l
  omega
theorem enR_all {S : TS} {l : List RC} (hs : Sim S l) (hW : WF S) {pat : Bs} {hid : Bool} {ks : List Bs} (hN : Nms S hid ks) : sortR (enR l pat hid l.length) = srt (ks.filter (qB pat)) := by
  have hmem : ∀ x, x ∈ enR l pat hid l.length ↔ x ∈ ks.filter (qB pat) := fun x => by
    unfold enR
    rw [List.take_length, List.mem_map, List.mem_filter, hN.mem]
    constructor
    · rintro ⟨r, hr, rfl⟩
      rw [List.mem_filter] at hr
      obtain ⟨h1, h2⟩ := hr
      unfold hitP at h2
      simp only [Bool.and_eq_true, beq_iff_eq] at h2
      obtain ⟨i, hi⟩ := List.mem_iff_getElem?.1 h1
      exact ⟨by rw [hs.hit hW hi ⟨h2.1.1, h2.1.2, rfl⟩]; rfl, h2.2⟩
    · rintro ⟨h1, h2⟩
      obtain ⟨n, hn⟩ := Option.isSome_iff_exists.1 h1
      obtain ⟨c, hc, e1, e2⟩ := (hW.names _ _ _).1 hn
      obtain ⟨i, r, rfl, hi, ht, q1, q2, _⟩ := hs.at_ hW hc
      refine ⟨r, List.mem_filter.2 ⟨List.mem_of_getElem? hi, ?_⟩, q1.symm.trans e1⟩
      unfold hitP
      rw [ht, ← q2, e2, ← q1, e1, h2]
      simp
  have hnd : (enR l pat hid l.length).Nodup := by
    unfold enR
    rw [List.take_length]
    have key : ∀ (m : List RC) (a : Nat), (∀ j r, m[j]? = some r → l[a + j]? = some r) → ((m.filter (hitP pat hid)).map (·.name)).Nodup ∧ ∀ x ∈ (m.filter (hitP pat hid)).map (·.name), ∃ j, a ≤ j ∧ S.nm hid x = some (j + 1) := by
      intro m
      induction m with
      | nil => intro a _; simp
      | cons r m ih =>
        intro a h
        obtain ⟨h1, h2⟩ := ih (a + 1) (fun j r' hj => by have := h (j + 1) r' (by simpa using hj); rw [show a + 1 + j = a + (j + 1) from by omega]; exact this)
        have h0 := h 0 r (by simp)
        rw [List.filter_cons]
        split
        · rename_i hp
          have hp2 := hp
          unfold hitP at hp2
          simp only [Bool.and_eq_true, beq_iff_eq] at hp2
          have hn := hs.hit hW h0 (name := r.name) (hid := hid) ⟨hp2.1.1, hp2.1.2, rfl⟩
          refine ⟨?_, ?_⟩
          · rw [List.map_cons, List.nodup_cons]
            refine ⟨fun hm => ?_, h1⟩
            obtain ⟨j, hj, hjn⟩ := h2 _ hm
            rw [hn] at hjn
            injection hjn with hjn
            omega
          · intro x hx
            rw [List.map_cons] at hx
            rcases List.mem_cons.1 hx with rfl | hx
            · exact ⟨a + 0, by omega, hn⟩
            · obtain ⟨j, hj, hjn⟩ := h2 x hx
              exact ⟨j, by omega, hjn⟩
        · exact ⟨h1, fun x hx => by obtain ⟨j, hj, hjn⟩ := h2 x hx; exact ⟨j, by omega, hjn⟩⟩
    exact (key l 0 (fun j r hj => by rw [Nat.zero_add]; exact hj)).1
  rw [sortR_eq hnd]
  exact srt_of_perm ((List.perm_ext_iff_of_nodup hnd (hN.nodup.filter _)).2 hmem)
section
variable {w : World} {B yb ep : Nat} {l : List RC} {v : Value} {S : TS}
set_option maxRecDepth 100000 in
set_option maxHeartbeats 1600000 in
theorem rEvery_any (h : Rf w B yb l ep v) (hl : l.length ≤ 100000) (hn : ∀ r ∈ l, r.name.length ≤ 1000000) (pat : Bs) (hp : pat.length ≤ 1000000) (hid : Bool) :
    Calls Tryz.prog 54 #[.pointer (some ⟨yb, 0, none⟩), .string ⟨pat.toArray⟩, .bool hid] w fun e w' => ∃ vo, e = .returned vo ∧ TxtRow w' vo (sortR (enR l pat hid l.length)) ∧ Below w.heap.size w w' := by
  obtain ⟨c0, _⟩ := h.cells
  obtain ⟨vo, vc, hv⟩ := h.shape
  obtain ⟨N, hN⟩ : ∃ N, l.length = N := ⟨_, rfl⟩
  have H := Lib.hid (And.intro h (And.intro hN (And.intro hv hn)))
  rw [hv, hN] at c0
  rw [hN] at hl
  have GL : Hid (∀ W (rn : Bs), rn.length ≤ 1000000 → Calls Tryz.prog 66 #[.string ⟨pat.toArray⟩, .string ⟨rn.toArray⟩, .bool false] W fun e w' => e = .returned (.bool (qB pat rn)) ∧ Below W.heap.size W w') := fun W rn hr => by
    have := rGlob_any pat rn false hp hr W
    have e : gl false (partsA pat) rn (fun k => decide (k = 0)) = qB pat rn := (gl_match false pat rn).trans (globC_match pat rn false).symm
    rw [e] at this
    exact this
  have SO : Hid (∀ W v (ss : List Bs), TxtRow W v ss → ss.length ≤ 100000 → (∀ x ∈ ss, x.length ≤ 1000000) → Calls Tryz.prog 67 #[v] W fun e w' => ∃ vo, e = .returned vo ∧ TxtRow w' vo (sortR ss) ∧ Below W.heap.size W w') := fun W v ss a b c => rSorted_any a b c
  clear h hN hv hn
  go_enter Tryz.func54, Tryz.ntmps54
  go_wp2_with fail
  go_loopw [7, 17] (fun vo i wr => ∃ k : Nat, k ≤ N ∧ i = .int .i64 (k : Int) ∧ wr.ownsRow w.heap.size 9 1 vo (enR l pat hid k).length ((enR l pat hid k).map sv) ∧ Below w.heap.size w wr) (fun _ i _ => N - (intOf i).toNat)
  case atStart => exact ⟨0, Nat.zero_le _, rfl, ⟨rfl, .inl ⟨rfl, rfl⟩⟩, Below.refl _ _⟩
  case round =>
    obtain ⟨k, hk, rfl, hrow, hB⟩ := hrel
    by_cases hlt : k < N
    · have hkl : k < l.length := by have := H.out.2.1; omega
      have hr : l[k]? = some l[k] := List.getElem?_eq_getElem hkl
      obtain ⟨g, cap, hv, hg, d0, d1, d2, d3, _⟩ := (H.out.1.low hB).at_ hr
      rw [H.out.2.2.1] at hv
      injection hv with hv1 hv2 hv3
      subst hv1
      have hrn := H.out.2.2.2 l[k] (List.getElem_mem _)
      have hsn := enR_snoc (pat := pat) (hid := hid) hr
      generalize l[k] = r at *
      obtain ⟨e0, e1, e2, e3⟩ := boxR_cells (heap_alloc_new wr (boxR r))
      unfold boxR at e0 e1 e2 e3
      have i1 : k < N := hlt
      have hw1 : IntKind.i64.wrap ((k : Int) + 1) = (k : Int) + 1 := IntWalk.i64_in _ (by omega)
      have hbx := hB.alloc (o := boxR r) hB.size
      have hil := enR_len l pat hid k
      have GK := Lib.hid (GL.out · r.name hrn)
      generalize enR l pat hid k = zs at *
      obtain ⟨zn, hzn⟩ : ∃ zn, zs.length = zn := ⟨_, rfl⟩
      rw [hzn] at hrow hil
      obtain ⟨oo, oc, rfl⟩ := row_shape hrow
      have hrow1 := hrow.alloc (boxR r)
      have HBX : Hid (∀ W, Below (wr.heap.size + 1) (wr.alloc (boxR r)) W → W.cell? ⟨wr.heap.size, 0, none⟩ = some (.string ⟨r.name.toArray⟩) ∧ W.ownsRow w.heap.size 9 1 (.slice oo zn oc) zn (zs.map sv) ∧ Below w.heap.size w W) := fun W hb => ⟨(boxR_cells ((hb.block wr.heap.size (by omega)).trans (heap_alloc_new wr (boxR r)))).1, row_keep hrow1 (fun g hg => hb.block g (by have := (row_ids hrow1 g hg).2; simp at this; omega)), hbx.trans (hb.mono (by have := hB.size; omega))⟩
      have HB := Lib.hid (And.intro hbx (And.intro hrow1 (And.intro hlt (And.intro hsn hzn))))
      unfold boxR at HB HBX
      unfold hitP at HB
      obtain ⟨rn, rh, rt, ro⟩ := r
      simp only at d0 d1 d2 d3 e0 e1 e2 e3 HB HBX GK
      clear hkl hr hg hB hk hlt hv2 hv3 hbx hrow hrow1 hsn hzn hrn
      cases rt with
      | false =>
        go_wp2_with fail
        refine ⟨⟨k + 1, by have := HB.out.2.2.1; omega, by go_num, ?_, HB.out.1⟩, by have := HB.out.2.2.1; simp [intOf]; omega⟩
        have h := HB.out.2.2.2.1
        simp at h
        rw [h, HB.out.2.2.2.2]
        exact HB.out.2.1
      | true =>
        by_cases hh : rh = hid
        · subst hh
          cases hq : qB pat rn with
          | false =>
            rw [hq] at GK HB
            clear hq
            go_wp2_with (go_at_call 66; refine (GK.out _).mono ?_; rintro e w2 ⟨rfl, hB⟩; have hB3 := HBX.out w2 (by simpa using hB); have H3 := Lib.hid hB3; clear hB hB3)
            refine ⟨⟨k + 1, by have := HB.out.2.2.1; omega, by go_num, ?_, H3.out.2.2⟩, by have := HB.out.2.2.1; simp [intOf]; omega⟩
            have h := HB.out.2.2.2.1
            simp at h
            rw [h, HB.out.2.2.2.2]
            exact H3.out.2.1
          | true =>
            rw [hq] at GK HB
            clear hq
            go_wp2_with (first | (go_at_call 66; refine (GK.out _).mono ?_; rintro e w2 ⟨rfl, hB⟩; obtain ⟨x0, hB4, hB5⟩ := HBX.out w2 (by simpa using hB); have H3 := Lib.hid (And.intro hB4 hB5); clear hB hB4 hB5) | (at_builtin; (refine wpList_push1 rfl (.tmp 35) (.tmp 38) 56 rfl w.heap.size 9 (.string ⟨#[]⟩) 16 Tryz.underlying56 infoStr rfl (.slice oo zn oc) zn _ rfl H3.out.1 (.string ⟨rn.toArray⟩) _ rfl rfl rfl (by unfold maxLen; omega) (by omega) (by exact H3.out.2.size) ?_); intro g1 c1 w3 hg1 hown3 hk3 hloc; have H4 := Lib.hid (And.intro hown3 (hk3.below H3.out.2.size (fun d hd => (row_ids H3.out.1 d (by simpa using hd)).1))); clear hg1 hown3 hk3 hloc))
            refine ⟨⟨k + 1, by have := HB.out.2.2.1; omega, by go_num, ?_, H3.out.2.trans H4.out.2⟩, by have := HB.out.2.2.1; simp [intOf]; omega⟩
            have h := HB.out.2.2.2.1
            simp at h
            rw [h]
            have h2 := H4.out.1
            simpa [sv, HB.out.2.2.2.2] using h2
        · have hh2 : (rh == hid) = false := beq_eq_false_iff_ne.2 hh
          rw [hh2] at HB
          go_wp2_with fail
          refine ⟨⟨k + 1, by have := HB.out.2.2.1; omega, by go_num, ?_, HB.out.1⟩, by have := HB.out.2.2.1; simp [intOf]; omega⟩
          have h := HB.out.2.2.2.1
          simp at h
          rw [h, HB.out.2.2.2.2]
          exact HB.out.2.1
    · obtain rfl : k = N := by omega
      have i1 : decide ((k : Int) < (k : Int)) = false := by rw [decide_eq_false_iff_not]; omega
      have hel := enR_len l pat hid k
      have hmem : ∀ x ∈ enR l pat hid k, x.length ≤ 1000000 := fun x hx => by
        unfold enR at hx
        obtain ⟨r, hr, rfl⟩ := List.mem_map.1 hx
        exact H.out.2.2.2 r (List.mem_of_mem_take (List.mem_filter.1 hr).1)
      have SK := Lib.hid (SO.out wr _ _ (TxtRow.of_owns hrow) (by omega) hmem)
      have HB := Lib.hid hB
      obtain ⟨oo, oc, rfl⟩ := row_shape hrow
      clear hB hk hlt hrow hel hmem
      go_wp2_with (go_at_call 67; refine SK.out.mono ?_; rintro e w2 ⟨vo2, rfl, hr, hb⟩; have H2 := Lib.hid (And.intro hr hb); clear hr hb)
      go_ret
      refine ⟨_, rfl, ?_, HB.out.trans (H2.out.2.mono HB.out.size)⟩
      rw [H.out.2.1]
      exact H2.out.1
theorem rNames_any (h : Rf w B yb l ep v) (hs : Sim S l) (hW : WF S) (hl : S.last ≤ 100000) (hn : ∀ r ∈ l, r.name.length ≤ 1000000) (pat : Bs) (hp : pat.length ≤ 1000000) {ks : List Bs} (hN : Nms S false ks) :
    Calls Tryz.prog 35 #[.pointer (some ⟨yb, 0, none⟩), .string ⟨pat.toArray⟩] w fun e w' => ∃ vo, e = .returned vo ∧ TxtRow w' vo (srt (ks.filter (qB pat))) ∧ Below w.heap.size w w' := by
  have EV := rEvery_any h (by have := hs.len; omega) hn pat hp false
  rw [enR_all hs hW hN] at EV
  have E := Lib.hid EV
  clear h hs hW hn hN EV
  go_enter Tryz.func35, Tryz.ntmps35
  go_wp2_with (go_at_call 54; refine E.out.mono ?_; rintro e w2 ⟨vo2, rfl, hr, hb⟩; have H2 := Lib.hid (And.intro hr hb); clear hr hb)
  go_ret
  exact ⟨_, rfl, H2.out⟩
theorem rHidden_any (h : Rf w B yb l ep v) (hs : Sim S l) (hW : WF S) (hl : S.last ≤ 100000) (hn : ∀ r ∈ l, r.name.length ≤ 1000000) (pat : Bs) (hp : pat.length ≤ 1000000) {ks : List Bs} (hN : Nms S true ks) :
    Calls Tryz.prog 37 #[.pointer (some ⟨yb, 0, none⟩), .string ⟨pat.toArray⟩] w fun e w' => ∃ vo, e = .returned vo ∧ TxtRow w' vo (srt (ks.filter (qB pat))) ∧ Below w.heap.size w w' := by
  have EV := rEvery_any h (by have := hs.len; omega) hn pat hp true
  rw [enR_all hs hW hN] at EV
  have E := Lib.hid EV
  clear h hs hW hn hN EV
  go_enter Tryz.func37, Tryz.ntmps37
  go_wp2_with (go_at_call 54; refine E.out.mono ?_; rintro e w2 ⟨vo2, rfl, hr, hb⟩; have H2 := Lib.hid (And.intro hr hb); clear hr hb)
  go_ret
  exact ⟨_, rfl, H2.out⟩
end
end Go.Proofs.YtbbbenjakjejmaaGreat

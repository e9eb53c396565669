/- What lies below a path, heads and tails of paths put together: in plain Lean. The reference's 'sorted', 'Sorted' (as in layer 17). What 'Delete' leaves of the reference's tree: in plain words, and in memory. The reference's 'below', 'Delete', 'All'. Both trees of namespaces in memory; the acts of both. -/
import Derived.Test.YtjgdfgpnmmkjfaaGreatDoorNPlay
namespace Go.Proofs.YtjgdfgpnmmkjfaaGreatDoor
set_option linter.unusedVariables false
set_option linter.unusedSimpArgs false
open Go.RowKit
theorem col_split : ∀ t : Bs, ∃ m b, t = m ++ b ∧ (∀ x ∈ m, x = 58) ∧ b.head? ≠ some 58
  | [] => ⟨[], [], rfl, by simp, by simp⟩
  | c :: r => by
    by_cases h : c = 58
    · obtain ⟨m, b, h1, h2, h3⟩ := col_split r
      exact ⟨c :: m, b, by rw [h1]; rfl, fun x hx => by rcases List.mem_cons.1 hx with e | e; exact e.trans h; exact h2 x e, h3⟩
    · exact ⟨[], c :: r, rfl, by simp, by simpa using h⟩
/-- What lies below a path has its parts ahead. -/
theorem pre_take {k key : Bs} {l q : List Bs} (hk : Cp k l) (hq : Cp key q) (hp : Lib.hasPrefix k (headB key) = true) (hne : k ≠ key) : q.length < l.length ∧ l.take q.length = q := by
  obtain ⟨t, ht⟩ := pre_iff.1 hp
  by_cases hr : key = rootN
  · have : q = [] := cp_inj hq (by rw [hr]; exact ⟨rfl, by simp⟩)
    subst this
    refine ⟨?_, rfl⟩
    cases l with
    | nil => exact absurd (hk.1.trans hq.1.symm) hne
    | cons a b => simp
  · have hqn : q ≠ [] := fun e => hr (by rw [hq.1, e]; rfl)
    have hln : l ≠ [] := fun e => by
      have h1 := congrArg List.length ht
      rw [hk.1, e, show headB key = key ++ rootN from if_neg hr] at h1
      simp [canN, joinN, rootN] at h1
      have h2 : key ≠ [] := by rw [hq.1]; simp [canN]
      have : key.length ≠ 0 := by simpa using h2
      omega
    rw [show headB key = key ++ rootN from if_neg hr] at ht
    obtain ⟨m, b, hmb, hm, hb⟩ := col_split t
    have hkl := can_last hln hk.2
    rw [← hk.1] at hkl
    have hbn : b ≠ [] := fun e => by
      subst e
      rw [ht, hmb] at hkl
      apply hkl
      cases hml : m.reverse with
      | nil =>
        have : m = [] := by simpa using hml
        subst this
        rw [show key ++ rootN ++ ([] ++ []) = (key ++ [58]) ++ [58] from by simp [rootN], List.getLast?_concat]
      | cons x u =>
        have e := last_rev hml
        have hx : x = 58 := hm x (by rw [e]; simp)
        rw [e, hx, show key ++ rootN ++ (u.reverse ++ [58] ++ []) = (key ++ rootN ++ u.reverse) ++ [58] from by simp, List.getLast?_concat]
    have hql := can_last hqn hq.2
    have hpk : partsN k = q ++ partsN b := by
      have h1 := parts_cut (A := key) (m := m) (B := b) (by rw [hq.1]; exact hql) hm hbn hb
      rw [ht, hmb, show key ++ rootN ++ (m ++ b) = key ++ 58 :: 58 :: (m ++ b) from by simp [rootN], h1]
      congr 1
      rw [hq.1]; exact parts_can q hq.2
    have hlq : l = q ++ partsN b := by rw [← hpk, hk.1, parts_can l hk.2]
    have hlt : q.length < l.length := by
      refine Nat.lt_of_le_of_ne (by rw [hlq]; simp) (fun e => hne ?_)
      have : partsN b = [] := by
        have := congrArg List.length hlq
        simp at this
        have : (partsN b).length = 0 := by omega
        simpa using this
      rw [this, List.append_nil] at hlq
      rw [hk.1, hq.1, hlq]
    exact ⟨hlt, by rw [hlq]; simp⟩
theorem below_iff {k key : Bs} {l q : List Bs} (hk : Cp k l) (hq : Cp key q) : (decide (q.length ≤ l.length) && (canN (l.take q.length) == canN q)) = (k == key || inBel key (headB key) k) := by
  rw [Bool.eq_iff_iff]
  simp only [Bool.and_eq_true, Bool.or_eq_true, decide_eq_true_eq, beq_iff_eq, inBel, Bool.not_eq_true', beq_eq_false_iff_ne]
  constructor
  · rintro ⟨h1, h2⟩
    have h3 : l.take q.length = q := cp_inj (k := canN q) ⟨h2.symm, fun x hx => hk.2 x (List.mem_of_mem_take hx)⟩ ⟨rfl, hq.2⟩
    by_cases e : k = key
    · exact .inl e
    · refine .inr ⟨e, ?_⟩
      have hlt : q.length < l.length := Nat.lt_of_le_of_ne h1 (fun e2 => e (by rw [hk.1, hq.1]; rw [e2, List.take_length] at h3; rw [h3]))
      have := can_pre hk.2 hlt
      rw [h3, ← hk.1, ← hq.1] at this
      exact this
  · rintro (e | ⟨e, hp⟩)
    · have := cp_inj hk (e ▸ hq)
      subst this
      exact ⟨Nat.le_refl _, by rw [List.take_length]⟩
    · obtain ⟨h1, h2⟩ := pre_take hk hq hp e
      exact ⟨by omega, by rw [h2]⟩
/-- Head and tail of a path put together. -/
theorem cut_at (A q : Bs) (hA : A.getLast? ≠ some 58) (hq : Gp q) : cutN (A ++ 58 :: 58 :: q) = some (A.length, A.length + 2) := by
  obtain ⟨c, r, hcr, hc⟩ := hq.h
  have hdrop : ∀ j, (A ++ 58 :: 58 :: q).drop (A.length + j) = (58 :: 58 :: q).drop j := fun j => by rw [List.drop_append]; simp
  have hcol : col ((A ++ 58 :: 58 :: q).drop A.length) = 2 := by
    have := hdrop 0
    rw [Nat.add_zero] at this
    rw [this, hcr]
    simp [col, hc]
  have hrun : RunAt (A ++ 58 :: 58 :: q) A.length := by
    refine ⟨by rw [hcol]; exact Nat.le_refl _, ?_⟩
    by_cases h0 : A.length = 0
    · exact .inl h0
    · refine .inr ?_
      rw [List.getElem?_append_left (by omega), ← List.getLast?_eq_getElem?]
      exact hA
  have hlen : A.length < (A ++ 58 :: 58 :: q).length := by simp
  unfold cutN
  cases e : lastN (A ++ 58 :: 58 :: q) (A ++ 58 :: 58 :: q).length with
  | none => exact absurd hrun (last_none e A.length hlen)
  | some p =>
    obtain ⟨f, t⟩ := p
    obtain ⟨h1, h2, h3, h4⟩ := last_some e
    have hge : A.length ≤ f := Nat.le_of_not_lt fun h => h4 A.length h hlen hrun
    have hf : f = A.length := by
      obtain ⟨d, rfl⟩ : ∃ d, f = A.length + d := ⟨f - A.length, by omega⟩
      rcases d with _ | _ | d
      · rfl
      · exfalso
        rcases h2.2 with h | h
        · omega
        · apply h
          rw [show A.length + (0 + 1) - 1 = A.length from by omega, List.getElem?_append_right (Nat.le_refl _)]
          simp
      · exfalso
        have h5 := h2.1
        rw [hdrop] at h5
        simp only [List.drop_succ_cons] at h5
        obtain ⟨hx, _⟩ := col_take (q.drop d)
        have h6 := col_le (q.drop d)
        have h7 : q.drop d = 58 :: 58 :: (q.drop d).drop 2 := by
          match hh : q.drop d, hx, h5, h6 with
          | [], _, h5, _ => simp [col] at h5
          | [x], hx, h5, _ => simp [col] at h5; split at h5 <;> simp at h5
          | x :: y :: z, hx, h5, _ =>
            have hx1 := hx x (by
              obtain ⟨n, hn⟩ : ∃ n, col (x :: y :: z) = n + 2 := ⟨col (x :: y :: z) - 2, by omega⟩
              rw [hn]; simp)
            have hy1 := hx y (by
              obtain ⟨n, hn⟩ : ∃ n, col (x :: y :: z) = n + 2 := ⟨col (x :: y :: z) - 2, by omega⟩
              rw [hn]; simp)
            rw [hx1, hy1]; rfl
        exact hq.d (q.take d) ((q.drop d).drop 2) (by rw [← h7, List.take_append_drop])
    subst hf
    rw [h3, hcol]
theorem joinN_snoc : ∀ (l : List Bs) (q : Bs), l ≠ [] → joinN (l ++ [q]) = joinN l ++ 58 :: 58 :: q
  | [a], q, _ => rfl
  | a :: b :: r, q, _ => by
    have := joinN_snoc (b :: r) q (by simp)
    show a ++ 58 :: 58 :: joinN ((b :: r) ++ [q]) = (a ++ 58 :: 58 :: joinN (b :: r)) ++ 58 :: 58 :: q
    rw [this]; simp
theorem can_snoc (l : List Bs) (q : Bs) : canN (l ++ [q]) = (if l = [] then [] else canN l) ++ 58 :: 58 :: q := by
  by_cases h : l = []
  · subst h; rfl
  · rw [if_neg h]
    unfold canN
    rw [joinN_snoc l q h]; rfl
theorem head_can {k : Bs} {l : List Bs} {q : Bs} (hk : Cp k (l ++ [q])) : headN k = canN l ∧ tailN k = q := by
  have hq := hk.2 q (by simp)
  have hl : ∀ x ∈ l, Gp x := fun x hx => hk.2 x (by simp [hx])
  have hA : (if l = [] then ([] : Bs) else canN l).getLast? ≠ some 58 := by
    split
    · simp
    · rename_i h; exact can_last h hl
  have hc := cut_at _ q hA hq
  rw [← can_snoc, ← hk.1] at hc
  have hke : k = (if l = [] then ([] : Bs) else canN l) ++ 58 :: 58 :: q := by rw [hk.1, can_snoc]
  unfold headN tailN
  rw [hc]
  refine ⟨?_, ?_⟩
  · show canonN rootN (k.take _) = _
    conv => lhs; rw [hke]
    rw [List.take_left, canon_root]
    by_cases h : l = []
    · rw [if_pos h, h]; rfl
    · rw [if_neg h, parts_can l hl]
  · show k.drop _ = q
    conv => lhs; rw [hke]
    rw [List.drop_append]
    simp
/-- What 'Children' asks of a path: the program's way and the reference's. -/
def chP (f : Bs → Bool) (key p : Bs) : Bool := inBel key (headB key) p && ((headN p == key) && f (tailN p))
def chR (f : Bs → Bool) (key : Bs) (l : List Bs) : Bool := match l.getLast? with
  | none => false
  | some x => (canN l.dropLast == key) && f x
theorem child_eq (f : Bs → Bool) {p key : Bs} {l q : List Bs} (hp : Cp p l) (hq : Cp key q) : chP f key p = chR f key l := by
  unfold chP chR
  rcases List.eq_nil_or_concat l with rfl | ⟨r, x, rfl⟩
  · have hk : p = rootN := hp.1
    have : inBel key (headB key) p = false := by
      subst hk
      unfold inBel
      by_cases e : rootN = key
      · subst e; simp
      · have h1 := below_iff hp hq
        have : q ≠ [] := fun h => e (by rw [hq.1, h]; rfl)
        have : q.length ≠ 0 := by simpa using this
        have h2 : decide (q.length ≤ ([] : List Bs).length) = false := by rw [decide_eq_false_iff_not]; simpa using this
        rw [h2, Bool.false_and] at h1
        have h3 : (rootN == key) = false := beq_eq_false_iff_ne.2 e
        rw [h3, Bool.false_or] at h1
        unfold inBel at h1
        exact h1.symm
    rw [this]; rfl
  · rw [List.concat_eq_append] at hp ⊢
    obtain ⟨h1, h2⟩ := head_can hp
    rw [h1, h2, List.getLast?_concat, List.dropLast_concat]
    by_cases e : canN r = key
    · have hlt : r.length < (r ++ [x]).length := by simp
      have h3 := can_pre hp.2 hlt
      rw [List.take_left, e, ← hp.1] at h3
      have h4 : p ≠ key := fun e2 => by
        have := cp_inj (e2 ▸ hp) (k := key) (m := r) ⟨e.symm, fun y hy => hp.2 y (by simp [hy])⟩
        have := congrArg List.length this
        simp at this
      have h5 : (p == key) = false := beq_eq_false_iff_ne.2 h4
      simp [inBel, h3, h5, e]
    · have h5 : (canN r == key) = false := beq_eq_false_iff_ne.2 e
      simp [h5]
end Go.Proofs.YtjgdfgpnmmkjfaaGreatDoor
namespace Go.Proofs.YtjgdfgpnmmkjfaaGreatDoor
set_option linter.unusedVariables false
set_option linter.unusedSimpArgs false
open Go.RowKit Go.MapKept
/-- A text put into a row of texts. -/
def insR (s : Bs) : List Bs → List Bs
  | [] => [s]
  | x :: t => if s ≤ x then (if s = x then x :: t else s :: x :: t) else x :: insR s t
theorem insR_len (s : Bs) : ∀ l, (insR s l).length ≤ l.length + 1
  | [] => by simp [insR]
  | x :: t => by
    unfold insR
    have := insR_len s t
    split
    · split <;> simp
    · simp only [List.length_cons]; omega
theorem insR_perm (s : Bs) : ∀ l, s ∉ l → (insR s l).Perm (s :: l)
  | [], _ => by simp [insR]
  | x :: t, h => by
    unfold insR
    simp only [List.mem_cons, not_or] at h
    split
    · rw [if_neg h.1]
    · exact (List.Perm.cons x (insR_perm s t h.2)).trans (List.Perm.swap s x t)
theorem insR_sorted (s : Bs) : ∀ l, l.Pairwise (fun a b : Bs => a ≤ b) → (insR s l).Pairwise (fun a b : Bs => a ≤ b)
  | [], _ => by simp [insR]
  | x :: t, h => by
    unfold insR
    rw [List.pairwise_cons] at h
    split
    · rename_i hs
      split
      · exact List.pairwise_cons.2 h
      · refine List.pairwise_cons.2 ⟨fun y hy => ?_, List.pairwise_cons.2 h⟩
        rcases List.mem_cons.1 hy with rfl | hy
        · exact hs
        · exact List.le_trans hs (h.1 y hy)
    · rename_i hs
      have hx : x ≤ s := by rcases List.le_total x s with h | h; exact h; exact absurd h hs
      refine List.pairwise_cons.2 ⟨fun y hy => ?_, insR_sorted s t h.2⟩
      by_cases hm : s ∈ t
      · have hsub : ∀ (t : List Bs) y, y ∈ insR s t → y = s ∨ y ∈ t := by
          intro t
          induction t with
          | nil => intro y hy; simpa [insR] using hy
          | cons z t ih =>
            intro y hy
            unfold insR at hy
            split at hy
            · split at hy
              · exact .inr hy
              · rcases List.mem_cons.1 hy with h | h
                · exact .inl h
                · exact .inr h
            · rcases List.mem_cons.1 hy with h | h
              · exact .inr (List.mem_cons.2 (.inl h))
              · rcases ih y h with h | h
                · exact .inl h
                · exact .inr (List.mem_cons.2 (.inr h))
        rcases hsub t y hy with rfl | h3
        · exact hx
        · exact h.1 y h3
      · rcases List.mem_cons.1 ((insR_perm s t hm).mem_iff.1 hy) with rfl | h3
        · exact hx
        · exact h.1 y h3
def sortR (l : List Bs) : List Bs := l.foldl (fun a s => insR s a) []
theorem sortR_snoc (l : List Bs) (s : Bs) : sortR (l ++ [s]) = insR s (sortR l) := by simp [sortR]
theorem sortR_len : ∀ (l : List Bs) (a : List Bs), (l.foldl (fun a s => insR s a) a).length ≤ l.length + a.length
  | [], a => by simp
  | s :: l, a => by
    have h1 := sortR_len l (insR s a)
    have h2 := insR_len s a
    simp only [List.foldl_cons, List.length_cons]
    omega
theorem sortR_all : ∀ (l a : List Bs), (a ++ l).Nodup → a.Pairwise (fun a b : Bs => a ≤ b) → (l.foldl (fun a s => insR s a) a).Perm (a ++ l) ∧ (l.foldl (fun a s => insR s a) a).Pairwise (fun a b : Bs => a ≤ b)
  | [], a, _, h => ⟨by simp, h⟩
  | s :: l, a, hn, h => by
    have hs : s ∉ a := fun hm => by
      rw [List.nodup_append] at hn
      exact hn.2.2 s hm s (by simp) rfl
    have hp := insR_perm s a hs
    have hp2 : (insR s a ++ l).Perm (a ++ s :: l) := (hp.append_right l).trans (by simpa using (List.perm_middle (a := s) (l₁ := a) (l₂ := l)).symm)
    obtain ⟨h1, h2⟩ := sortR_all l (insR s a) (hp2.nodup_iff.2 hn) (insR_sorted s a h)
    exact ⟨h1.trans hp2, h2⟩
theorem sortR_eq {l : List Bs} (hn : l.Nodup) : sortR l = srt l := by
  obtain ⟨h1, h2⟩ := sortR_all l [] (by simpa using hn) List.Pairwise.nil
  have h3 : (srt l).Pairwise (fun a b : Bs => a ≤ b) := by
    have := List.pairwise_mergeSort (le := fun x y : Bs => decide (x ≤ y)) (fun a b c h k => by simp only [decide_eq_true_eq] at *; exact List.le_trans h k) (fun a b => by rcases List.le_total a b with h | h <;> simp [h]) l
    exact this.imp (fun {a b} h => by simpa using h)
  exact ((show (sortR l).Perm l from by unfold sortR; simpa using h1).trans (srt_perm l).symm).eq_of_pairwise (fun a b _ _ h k => List.le_antisymm h k) h2 h3
set_option maxRecDepth 100000 in
set_option maxHeartbeats 1600000 in
theorem sorted_any0 {w : World} {v : Value} {ss : List Bs} (hv : TxtRow w v ss) (hl : ss.length ≤ 200000) (s : Bs) (hs : s.length ≤ 1000000) (hsl : ∀ x ∈ ss, x.length ≤ 1000000) :
    Calls Tryz.prog 82 #[v, .string ⟨s.toArray⟩] w fun e w' => ∃ vo, e = .returned vo ∧ w'.ownsRow w.heap.size 9 1 vo (insR s ss).length ((insR s ss).map sv) ∧ Below w.heap.size w w' := by
  obtain ⟨o, c, rfl, h2, h3, h4⟩ := hv
  have H := Lib.hid h4
  obtain ⟨N, hN⟩ : ∃ N, ss.length = N := ⟨_, rfl⟩
  have HN := Lib.hid (And.intro hN hsl)
  rw [hN] at hl ⊢
  clear h2 h3 h4 hN hsl
  go_enter Tryz.func82, Tryz.ntmps82
  go_wp2_with fail
  go_loopw [5, 6, 11] (fun vo pv i wr => ∃ (k : Nat) (acc : List Bs) (p : Bool), k ≤ N ∧ i = .int .i64 (k : Int) ∧ pv = .bool p ∧ wr.ownsRow w.heap.size 9 1 vo acc.length (acc.map sv) ∧ acc ++ (if p = true then ss.drop k else insR s (ss.drop k)) = insR s ss ∧ acc.length ≤ k + p.toNat ∧ Below w.heap.size w wr) (fun _ _ i _ => N - (intOf i).toNat)
  case atStart => exact ⟨0, [], false, Nat.zero_le _, rfl, rfl, ⟨rfl, .inl ⟨rfl, rfl⟩⟩, by simp, by simp, Below.refl _ _⟩
  case round =>
    obtain ⟨k, acc, p, hk, rfl, rfl, hrow, hacc, hal, hB⟩ := hrel
    obtain ⟨an, han⟩ : ∃ an, acc.length = an := ⟨_, rfl⟩
    rw [han] at hrow hal
    have hal2 : an ≤ k + 1 := by have := Bool.toNat_le p; omega
    obtain ⟨oo, oc, rfl⟩ := row_shape hrow
    by_cases hlt : k < N
    · have hkl : k < ss.length := by have := HN.out.1; omega
      obtain ⟨b, off, rfl, hbl, hcb⟩ := H.out k hkl
      have hd : ss.drop k = ss[k] :: ss.drop (k + 1) := List.drop_eq_getElem_cons hkl
      have d0 := (hB.cell (p := ⟨b, off + k, none⟩) hbl).trans hcb
      unfold sv at d0
      have hxl := HN.out.2 ss[k] (List.getElem_mem _)
      generalize ss[k] = x at *
      have i1 : k < N := hlt
      have hw1 : IntKind.i64.wrap ((k : Int) + 1) = (k : Int) + 1 := IntWalk.i64_in _ (by omega)
      have HB := Lib.hid (And.intro hB (And.intro hrow (And.intro hlt (And.intro hacc (And.intro hd (And.intro han hal))))))
      clear hkl hB hk hlt hrow hacc hd hcb hbl han
      cases p with
      | true =>
        go_wp2_with (at_builtin; (refine wpList_push1 rfl (.tmp 29) (.tmp 31) 27 rfl w.heap.size 9 (.string ⟨#[]⟩) 16 Tryz.underlying27 infoStr rfl (.slice oo an oc) an _ rfl HB.out.2.1 (.string ⟨x.toArray⟩) _ rfl rfl rfl (by unfold maxLen; omega) (by omega) (by exact HB.out.1.size) ?_); intro p1g p1c p1w p1hg p1hown p1hk p1hl; have Hp1 := Lib.hid (And.intro p1hown (p1hk.below HB.out.1.size (fun d hd => (row_ids HB.out.2.1 d (by simpa using hd)).1))); clear p1hg p1hown p1hk p1hl)
        refine ⟨⟨k + 1, acc ++ [x], true, by have := HB.out.2.2.1; omega, by go_num, rfl, ?_, ?_, ?_, HB.out.1.trans Hp1.out.2⟩, by have := HB.out.2.2.1; simp [intOf]; omega⟩
        · have h := Hp1.out.1; simpa [sv, HB.out.2.2.2.2.2.1] using h
        · have h := HB.out.2.2.2.1; rw [HB.out.2.2.2.2.1] at h; simpa using h
        · have h1 := HB.out.2.2.2.2.2.2; have h2 := HB.out.2.2.2.2.2.1; simp [Bool.toNat] at h1 ⊢; omega
      | false =>
        by_cases hle : s ≤ x
        · by_cases hsx : s = x
          · subst hsx
            have b1 : (s == s) = true := beq_self_eq_true s
            have hi : insR s (s :: ss.drop (k + 1)) = s :: ss.drop (k + 1) := by unfold insR; rw [if_pos hle, if_pos rfl]
            have HI := Lib.hid hi
            clear hi hle
            go_wp2_with (at_builtin; (refine wpList_push1 rfl (.tmp 29) (.tmp 31) 27 rfl w.heap.size 9 (.string ⟨#[]⟩) 16 Tryz.underlying27 infoStr rfl (.slice oo an oc) an _ rfl HB.out.2.1 (.string ⟨s.toArray⟩) _ rfl rfl rfl (by unfold maxLen; omega) (by omega) (by exact HB.out.1.size) ?_); intro p1g p1c p1w p1hg p1hown p1hk p1hl; have Hp1 := Lib.hid (And.intro p1hown (p1hk.below HB.out.1.size (fun d hd => (row_ids HB.out.2.1 d (by simpa using hd)).1))); clear p1hg p1hown p1hk p1hl)
            refine ⟨⟨k + 1, acc ++ [s], true, by have := HB.out.2.2.1; omega, by go_num, rfl, ?_, ?_, ?_, HB.out.1.trans Hp1.out.2⟩, by have := HB.out.2.2.1; simp [intOf]; omega⟩
            · have h := Hp1.out.1; simpa [sv, HB.out.2.2.2.2.2.1] using h
            · have h := HB.out.2.2.2.1; rw [HB.out.2.2.2.2.1] at h; simpa [HI.out] using h
            · have h1 := HB.out.2.2.2.2.2.2; have h2 := HB.out.2.2.2.2.2.1; simp [Bool.toNat] at h1 ⊢; omega
          · have b1 : (s == x) = false := beq_eq_false_iff_ne.2 hsx
            have b2 : Op.bytesLess s x = true := by rw [Go.Proofs.bytesLess_eq, decide_eq_true_eq]; rcases List.le_iff_lt_or_eq.1 hle with h | h; exact h; exact absurd h hsx
            have hi : insR s (x :: ss.drop (k + 1)) = s :: x :: ss.drop (k + 1) := by unfold insR; rw [if_pos hle, if_neg hsx]
            have HI := Lib.hid hi
            clear hi hle hsx
            go_wp2_with (first | (at_builtin; (refine wpList_push1 rfl (.tmp 25) (.tmp 27) 27 rfl w.heap.size 9 (.string ⟨#[]⟩) 16 Tryz.underlying27 infoStr rfl (.slice oo an oc) an _ rfl HB.out.2.1 (.string ⟨s.toArray⟩) _ rfl rfl rfl (by unfold maxLen; omega) (by omega) (by exact HB.out.1.size) ?_); intro p2g p2c p2w p2hg p2hown p2hk p2hl; have Hp2 := Lib.hid (And.intro p2hown (p2hk.below HB.out.1.size (fun d hd => (row_ids HB.out.2.1 d (by simpa using hd)).1))); clear p2hg p2hown p2hk p2hl) | (at_builtin; (refine wpList_push1 rfl (.tmp 29) (.tmp 31) 27 rfl w.heap.size 9 (.string ⟨#[]⟩) 16 Tryz.underlying27 infoStr rfl (.slice (some ⟨p2g, 0, none⟩) (an + 1) p2c) (an + 1) _ rfl Hp2.out.1 (.string ⟨x.toArray⟩) _ rfl rfl rfl (by unfold maxLen; omega) (by omega) (by exact (HB.out.1.trans Hp2.out.2).size) ?_); intro p1g p1c p1w p1hg p1hown p1hk p1hl; have Hp1 := Lib.hid (And.intro p1hown (p1hk.below (HB.out.1.trans Hp2.out.2).size (fun d hd => (row_ids Hp2.out.1 d (by simpa using hd)).1))); clear p1hg p1hown p1hk p1hl))
            refine ⟨⟨k + 1, acc ++ [s, x], true, by have := HB.out.2.2.1; omega, by go_num, rfl, ?_, ?_, ?_, (HB.out.1.trans Hp2.out.2).trans Hp1.out.2⟩, by have := HB.out.2.2.1; simp [intOf]; omega⟩
            · have h := Hp1.out.1; simpa [sv, HB.out.2.2.2.2.2.1] using h
            · have h := HB.out.2.2.2.1; rw [HB.out.2.2.2.2.1] at h; simpa [HI.out] using h
            · have h1 := HB.out.2.2.2.2.2.2; have h2 := HB.out.2.2.2.2.2.1; simp [Bool.toNat] at h1 ⊢; omega
        · have hlt2 : ¬ s < x := fun h => hle (List.le_of_lt h)
          have hsx : ¬ s = x := fun h => hle (by rw [h]; exact List.le_refl x)
          have b1 : (s == x) = false := beq_eq_false_iff_ne.2 hsx
          have b2 : Op.bytesLess s x = false := by rw [Go.Proofs.bytesLess_eq, decide_eq_false_iff_not]; exact hlt2
          have hi : insR s (x :: ss.drop (k + 1)) = x :: insR s (ss.drop (k + 1)) := by rw [insR.eq_2, if_neg hle]
          have HI := Lib.hid hi
          clear hi hle hsx hlt2
          go_wp2_with (at_builtin; (refine wpList_push1 rfl (.tmp 29) (.tmp 31) 27 rfl w.heap.size 9 (.string ⟨#[]⟩) 16 Tryz.underlying27 infoStr rfl (.slice oo an oc) an _ rfl HB.out.2.1 (.string ⟨x.toArray⟩) _ rfl rfl rfl (by unfold maxLen; omega) (by omega) (by exact HB.out.1.size) ?_); intro p1g p1c p1w p1hg p1hown p1hk p1hl; have Hp1 := Lib.hid (And.intro p1hown (p1hk.below HB.out.1.size (fun d hd => (row_ids HB.out.2.1 d (by simpa using hd)).1))); clear p1hg p1hown p1hk p1hl)
          refine ⟨⟨k + 1, acc ++ [x], false, by have := HB.out.2.2.1; omega, by go_num, rfl, ?_, ?_, ?_, HB.out.1.trans Hp1.out.2⟩, by have := HB.out.2.2.1; simp [intOf]; omega⟩
          · have h := Hp1.out.1; simpa [sv, HB.out.2.2.2.2.2.1] using h
          · have h := HB.out.2.2.2.1; rw [HB.out.2.2.2.2.1] at h; simpa [HI.out] using h
          · have h1 := HB.out.2.2.2.2.2.2; have h2 := HB.out.2.2.2.2.2.1; simp [Bool.toNat] at h1 ⊢; omega
    · obtain rfl : k = N := by omega
      have i1 : decide ((k : Int) < (k : Int)) = false := by rw [decide_eq_false_iff_not]; omega
      have hd : ss.drop k = [] := List.drop_eq_nil_of_le (by have := HN.out.1; omega)
      rw [hd] at hacc
      have HB := Lib.hid (And.intro hB (And.intro hrow (And.intro hacc han)))
      clear hB hk hlt hrow hacc hd han
      cases p with
      | true =>
        go_wp2_with fail
        go_ret
        refine ⟨_, rfl, ?_, HB.out.1⟩
        have h : acc = insR s ss := by simpa using HB.out.2.2.1
        rw [← h, HB.out.2.2.2]
        exact HB.out.2.1
      | false =>
        go_wp2_with (at_builtin; (refine wpList_push1 rfl (.tmp 36) (.tmp 38) 27 rfl w.heap.size 9 (.string ⟨#[]⟩) 16 Tryz.underlying27 infoStr rfl (.slice oo an oc) an _ rfl HB.out.2.1 (.string ⟨s.toArray⟩) _ rfl rfl rfl (by unfold maxLen; omega) (by omega) (by exact HB.out.1.size) ?_); intro p3g p3c p3w p3hg p3hown p3hk p3hl; have Hp3 := Lib.hid (And.intro p3hown (p3hk.below HB.out.1.size (fun d hd => (row_ids HB.out.2.1 d (by simpa using hd)).1))); clear p3hg p3hown p3hk p3hl)
        go_ret
        refine ⟨_, rfl, ?_, HB.out.1.trans Hp3.out.2⟩
        have h : acc ++ [s] = insR s ss := by simpa [insR] using HB.out.2.2.1
        rw [← h]
        have h2 := Hp3.out.1
        simpa [sv, HB.out.2.2.2] using h2
set_option maxRecDepth 100000 in
set_option maxHeartbeats 800000 in
theorem rSorted_any {w : World} {v : Value} {ss : List Bs} (hv : TxtRow w v ss) (hl : ss.length ≤ 100000) (hsl : ∀ x ∈ ss, x.length ≤ 1000000) :
    Calls Tryz.prog 60 #[v] w fun e w' => ∃ vo, e = .returned vo ∧ TxtRow w' vo (sortR ss) ∧ Below w.heap.size w w' := by
  obtain ⟨o, c, rfl, h2, h3, h4⟩ := hv
  have H := Lib.hid h4
  have SO : Hid (∀ W v k x, TxtRow W v (sortR (ss.take k)) → k ≤ ss.length → x ∈ ss → Calls Tryz.prog 82 #[v, .string ⟨x.toArray⟩] W fun e w' => ∃ vo, e = .returned vo ∧ TxtRow w' vo (insR x (sortR (ss.take k))) ∧ Below W.heap.size W w') := fun W v k x h hk hx => by
    have hlen := sortR_len (ss.take k) []
    simp only [List.length_take, List.length_nil] at hlen
    refine (sorted_any0 h (by unfold sortR; omega) x (hsl x hx) (fun y hy => ?_)).mono fun e w' ⟨vo, he, hr, hb⟩ => ⟨vo, he, TxtRow.of_owns hr, hb⟩
    have hsub : ∀ (m a : List Bs) y, y ∈ m.foldl (fun a s => insR s a) a → y ∈ m ∨ y ∈ a := by
      intro m
      induction m with
      | nil => intro a y hy; exact .inr hy
      | cons z m ih =>
        intro a y hy
        rcases ih _ _ hy with h | h
        · exact .inl (List.mem_cons.2 (.inr h))
        · have hins : ∀ (t : List Bs) y, y ∈ insR z t → y = z ∨ y ∈ t := by
            intro t
            induction t with
            | nil => intro y hy; simpa [insR] using hy
            | cons u t ih =>
              intro y hy
              unfold insR at hy
              split at hy
              · split at hy
                · exact .inr hy
                · rcases List.mem_cons.1 hy with h | h
                  · exact .inl h
                  · exact .inr h
              · rcases List.mem_cons.1 hy with h | h
                · exact .inr (List.mem_cons.2 (.inl h))
                · rcases ih y h with h | h
                  · exact .inl h
                  · exact .inr (List.mem_cons.2 (.inr h))
          rcases hins a y h with rfl | h
          · exact .inl (by simp)
          · exact .inr h
    rcases hsub _ _ y hy with h | h
    · exact hsl y (List.mem_of_mem_take h)
    · cases h
  obtain ⟨N, hN⟩ : ∃ N, ss.length = N := ⟨_, rfl⟩
  have HN := Lib.hid hN
  rw [hN] at hl ⊢
  clear h2 h3 h4 hN hsl
  go_enter Tryz.func60, Tryz.ntmps60
  go_wp2_with fail
  go_loopw [3, 8] (fun vo i wr => ∃ k : Nat, k ≤ N ∧ i = .int .i64 (k : Int) ∧ TxtRow wr vo (sortR (ss.take k)) ∧ Below w.heap.size w wr) (fun _ i _ => N - (intOf i).toNat)
  case atStart => exact ⟨0, Nat.zero_le _, rfl, ⟨none, 0, rfl, by simp [sortR], by unfold maxLen; omega, fun i hi => by simp [sortR] at hi⟩, Below.refl _ _⟩
  case round =>
    obtain ⟨k, hk, rfl, hrow, hB⟩ := hrel
    by_cases hlt : k < N
    · have hkl : k < ss.length := by have := HN.out; omega
      obtain ⟨b, off, rfl, hbl, hcb⟩ := H.out k hkl
      have hx : ss.take (k + 1) = ss.take k ++ [ss[k]] := by rw [List.take_add_one, List.getElem?_eq_getElem hkl]; rfl
      have d0 := (hB.cell (p := ⟨b, off + k, none⟩) hbl).trans hcb
      unfold sv at d0
      have SK := Lib.hid (SO.out wr _ k ss[k] hrow (by omega) (List.getElem_mem _))
      generalize ss[k] = x at *
      have i1 : k < N := hlt
      have hw1 : IntKind.i64.wrap ((k : Int) + 1) = (k : Int) + 1 := IntWalk.i64_in _ (by omega)
      have HB := Lib.hid (And.intro hB (And.intro hlt hx))
      clear hkl hB hk hlt hrow hx hcb hbl
      go_wp2_with (go_at_call 82; refine SK.out.mono ?_; rintro e w2 ⟨vo2, rfl, hr, hb⟩; have H2 := Lib.hid (And.intro hr hb); clear hr hb)
      exact ⟨⟨k + 1, by have := HB.out.2.1; omega, by go_num, by rw [HB.out.2.2, sortR_snoc]; exact H2.out.1, HB.out.1.trans (H2.out.2.mono HB.out.1.size)⟩, by have := HB.out.2.1; simp [intOf]; omega⟩
    · obtain rfl : k = N := by omega
      have i1 : decide ((k : Int) < (k : Int)) = false := by rw [decide_eq_false_iff_not]; omega
      rw [List.take_of_length_le (by have := HN.out; omega)] at hrow
      have HB := Lib.hid (And.intro hB hrow)
      clear hB hk hlt hrow
      go_wp2_with fail
      go_ret
      exact ⟨_, rfl, HB.out.2, HB.out.1⟩
end Go.Proofs.YtjgdfgpnmmkjfaaGreatDoor
namespace Go.Proofs.YtjgdfgpnmmkjfaaGreatDoor
set_option linter.unusedVariables false
set_option linter.unusedSimpArgs false
open Go.RowKit Go.MapKept
/-- Whether a path is another one, or below it. -/
def belK (key k : Bs) : Bool := k == key || inBel key (headB key) k
/-- Whether a path goes with another one. -/
def goneR (key k : Bs) : Bool := belK key k && !(k == rootN)
theorem root_out {key : Bs} {q : List Bs} (hq : Cp key q) (hr : key ≠ rootN) : belK key rootN = false := by
  have h1 := below_iff cp_root hq
  unfold belK
  rw [← h1]
  have : q ≠ [] := fun e => hr (by rw [hq.1, e]; rfl)
  have : q.length ≠ 0 := by simpa using this
  have h2 : decide (q.length ≤ ([] : List Bs).length) = false := by rw [decide_eq_false_iff_not]; simpa using this
  rw [h2]; rfl
theorem gone_iff {S : Bs → Option ND} {n : Nat} (hG : Gd S n) {key : Bs} {ks : List Bs} (hks : KeysOf S ks) (hkey : (S key).isSome = true) (k : Bs) : k ∈ goneL key ks ↔ (S k).isSome = true ∧ goneR key k = true := by
  obtain ⟨q, hq, _⟩ := hG.key key hkey
  rw [gone_mem]
  unfold goneR
  simp only [Bool.and_eq_true, Bool.not_eq_true', beq_eq_false_iff_ne]
  constructor
  · rintro (⟨h1, h2⟩ | ⟨h1, rfl⟩)
    · refine ⟨(hks.mem k).1 h1, by unfold belK; rw [h2, Bool.or_true], fun e => ?_⟩
      subst e
      by_cases hr : key = rootN
      · subst hr
        unfold inBel at h2
        simp at h2
      · have := root_out hq hr
        unfold belK at this
        rw [h2] at this
        simp at this
    · exact ⟨hkey, by unfold belK; simp, h1⟩
  · rintro ⟨h1, h2, h3⟩
    unfold belK at h2
    by_cases e : k = key
    · subst e
      exact .inr ⟨h3, rfl⟩
    · refine .inl ⟨(hks.mem k).2 h1, ?_⟩
      simpa [e] using h2
theorem gone_nodup {S : Bs → Option ND} {key : Bs} {ks : List Bs} (hks : KeysOf S ks) : (goneL key ks).Nodup := by
  unfold goneL
  rw [List.nodup_append]
  refine ⟨hks.nodup.filter _, by split <;> simp, fun a ha b hb e => ?_⟩
  split at hb
  · cases hb
  · rw [List.mem_singleton] at hb
    subst e; subst hb
    have := (List.mem_filter.1 ha).2
    unfold inBel at this
    simp at this
theorem gone_srt {S : Bs → Option ND} {n : Nat} (hG : Gd S n) {key : Bs} {ks l : List Bs} (hks : KeysOf S ks) (hkey : (S key).isSome = true) (hn : l.Nodup) (hm : ∀ k, k ∈ l ↔ (S k).isSome = true) : sortR (l.filter (goneR key)) = srt (goneL key ks) := by
  rw [sortR_eq (hn.filter _)]
  refine srt_of_perm ((List.perm_ext_iff_of_nodup (hn.filter _) (gone_nodup hks)).2 fun k => ?_)
  rw [List.mem_filter, hm, gone_iff hG hks hkey]
theorem keys_srt {S : Bs → Option ND} {ks l : List Bs} (hks : KeysOf S ks) (hn : l.Nodup) (hm : ∀ k, k ∈ l ↔ (S k).isSome = true) : sortR l = ks := by
  rw [sortR_eq hn, ← hks.srt]
  refine srt_of_perm ((List.perm_ext_iff_of_nodup hn hks.nodup).2 fun k => ?_)
  rw [hm, hks.mem]
theorem del_root {S : Bs → Option ND} {n : Nat} (hG : Gd S n) {ks : List Bs} (hks : KeysOf S ks) : delS S rootN ks = newS := by
  funext k
  unfold newS
  by_cases hk : k = rootN
  · subst hk
    unfold delS
    rw [if_pos rfl, if_pos rfl, setS_at]
  · rw [if_neg hk]
    cases h : delS S rootN ks k with
    | none => rfl
    | some x =>
      have h1 := (del_some hG.root k).1 (by rw [h]; rfl)
      exfalso
      obtain ⟨q, hq, _⟩ := hG.key k h1.1
      refine h1.2 (gone_mem.2 (.inl ⟨(hks.mem k).2 h1.1, ?_⟩))
      unfold inBel
      have : Lib.hasPrefix k (headB rootN) = true := pre_iff.2 ⟨joinN q, by rw [hq.1]; rfl⟩
      rw [this]
      simp [hk]
theorem del_other {S : Bs → Option ND} {n : Nat} (hG : Gd S n) {key : Bs} {ks : List Bs} (hks : KeysOf S ks) (hkey : (S key).isSome = true) (hr : key ≠ rootN) : ∀ k, delS S key ks k = if (!goneR key k) = true then S k else none := fun k => by
  unfold delS
  rw [if_neg hr, delAll_at]
  have h := gone_iff hG hks hkey k
  cases hS : S k with
  | none => split <;> split <;> rfl
  | some x =>
    rw [hS] at h
    by_cases hg : goneR key k = true
    · rw [if_pos (h.2 ⟨rfl, hg⟩)]; simp [hg]
    · rw [if_neg (fun hm => hg (h.1 hm).2)]; simp [hg]
/-- Away with those that are not kept. -/
theorem RTr.dropped {w w1 : World} {B yb : Nat} {who : Own} {nd : Bs → Option Nat} {S S' : Bs → Option ND} {l : List Bs} (h : RTr w B yb who nd S l) (keep : Bs → Bool) (hS' : ∀ k, S' k = if keep k = true then S k else none) (hB : Below w.heap.size w w1)
    {v : Value} (hv : w1.ownsRow w.heap.size 55 1 v (l.filter keep).length ((l.filter keep).map fun p => ptrN (nd p))) :
    RTr (w1.setCell ⟨yb, 0, none⟩ v) B yb (ownV who v (1, [])) (fun k => if keep k = true then nd k else none) S' (l.filter keep) ∧ Stp who (ownV who v (1, [])) w (w1.setCell ⟨yb, 0, none⟩ v) := by
  have hids := row_ids hv
  have hmono : ∀ j t, who j = some t → ownV who v (1, []) j = some t := fun j t hj => by
    unfold ownV
    rw [if_neg]
    · exact hj
    · intro hg
      have := (hids j hg).1
      have := (h.lo j (by rw [hj]; simp)).2
      omega
  have h1 := h.low hB
  obtain ⟨lv, hc, _, _⟩ := h1.cel
  have hyl := h.lt
  have hset : ∀ j, j ≠ yb → (w1.setCell ⟨yb, 0, none⟩ v).heap[j]? = w1.heap[j]? := fun j hj => Below.heap_setCell w1 ⟨yb, 0, none⟩ v j hj
  have hsz : (w1.setCell ⟨yb, 0, none⟩ v).heap.size = w1.heap.size := by simp [World.setCell]
  have hy2 : ∀ k j, who j = some (2, k) ∨ who j = some (3, k) ∨ who j = some (4, k) → j ≠ yb := fun k j hj => by
    rintro rfl
    rw [h.wyb] at hj
    rcases hj with hj | hj | hj <;> simp at hj
  refine ⟨⟨⟨v, heap_setCell_same w1 yb 0 _ _ v hc, ?_, fun g hg => if_pos hg⟩, fun k => ?_, h.nodup.filter _, hmono _ _ h.wyb, fun k => ?_, fun k b n hb hS => ?_, fun j hj => ?_⟩, ⟨⟨hB.os, hB.tape, hB.output, by rw [hsz]; exact hB.size, fun j hj hn => ?_⟩, fun j hj => ?_⟩⟩
  · have e : (l.filter keep).map (fun p => ptrN (if keep p = true then nd p else none)) = (l.filter keep).map (fun p => ptrN (nd p)) := List.map_congr_left fun p hp => by rw [if_pos (List.mem_filter.1 hp).2]
    rw [e]
    exact row_base (row_keep hv (fun g hg => hset g (by have := (hids g hg).1; omega))) h.base
  · rw [List.mem_filter, h.mem, hS']
    by_cases hk : keep k = true <;> simp [hk]
  · rw [hS']
    by_cases hk : keep k = true
    · rw [if_pos hk, if_pos hk]; exact h.same k
    · rw [if_neg hk, if_neg hk]; rfl
  · rw [hS'] at hS
    by_cases hk : keep k = true
    · rw [if_pos hk] at hb hS
      have hN := h1.node k b n hb hS
      exact hN.keep (hset b (hy2 k b (.inl hN.1))) (fun j hj => hset j (hy2 k j (.inr (.inl hj)))) (fun j hj => hset j (hy2 k j (.inr (.inr hj)))) hmono
    · rw [if_neg hk] at hb; cases hb
  · unfold ownV at hj
    by_cases hg : v.ownBlock = some j
    · have := hids j hg
      have := h.base
      rw [hsz]; omega
    · rw [if_neg hg] at hj
      have := h1.lo j hj
      rw [hsz]; exact this
  · rw [hset j (by rintro rfl; rw [h.wyb] at hn; cases hn)]
    exact hB.block j hj
  · unfold ownV
    rw [if_neg (fun hg => by have := (hids j hg).1; omega)]
/-- Away with all; the first one is anew. -/
theorem RTr.reset {w w1 : World} {B yb nb : Nat} {who : Own} {nd : Bs → Option Nat} {S : Bs → Option ND} {l : List Bs} (h : RTr w B yb who nd S l) (hB : Below w.heap.size w w1) (hnb : w.heap.size ≤ nb) (hn : w1.heap[nb]? = some (rnode rootN))
    {v : Value} (hv : w1.ownsRow w.heap.size 55 1 v 1 [.pointer (some ⟨nb, 0, none⟩)]) :
    ∃ who', RTr (w1.setCell ⟨yb, 0, none⟩ v) B yb who' (fun k => if k = rootN then some nb else none) newS [rootN] ∧ Stp who who' w (w1.setCell ⟨yb, 0, none⟩ v) := by
  have hids := row_ids hv
  have hnl := (Array.getElem?_eq_some_iff.1 hn).1
  have hvn : v.ownBlock ≠ some nb := fun e => by
    obtain ⟨_, cur, hc⟩ := ownsRow_type hv nb e
    rw [hn] at hc
    unfold rnode at hc
    simp only [Option.some.injEq, Obj.cells.injEq] at hc
    exact absurd hc.2.1 (by decide)
  have hwn : who nb = none := h.none_at hnb
  have hmono : ∀ j t, who j = some t → ownV (who.set nb (2, rootN)) v (1, []) j = some t := fun j t hj => by
    have hl := (h.lo j (by rw [hj]; simp)).2
    unfold ownV
    rw [if_neg (fun hg => by have := (hids j hg).1; omega), Own.set_other (by omega)]
    exact hj
  have h1 := h.low hB
  obtain ⟨lv, hc, _, _⟩ := h1.cel
  have hyl := h.lt
  have hset : ∀ j, j ≠ yb → (w1.setCell ⟨yb, 0, none⟩ v).heap[j]? = w1.heap[j]? := fun j hj => Below.heap_setCell w1 ⟨yb, 0, none⟩ v j hj
  have hsz : (w1.setCell ⟨yb, 0, none⟩ v).heap.size = w1.heap.size := by simp [World.setCell]
  refine ⟨ownV (who.set nb (2, rootN)) v (1, []), ⟨⟨v, heap_setCell_same w1 yb 0 _ _ v hc, ?_, fun g hg => if_pos hg⟩, fun k => ?_, by simp, hmono _ _ h.wyb, fun k => ?_, fun k b n hb hS => ?_, fun j hj => ?_⟩, ⟨⟨hB.os, hB.tape, hB.output, by rw [hsz]; exact hB.size, fun j hj hn => ?_⟩, fun j hj => ?_⟩⟩
  · exact row_base (row_keep hv (fun g hg => hset g (by have := (hids g hg).1; omega))) h.base
  · unfold newS
    rw [List.mem_singleton]
    by_cases hk : k = rootN <;> simp [hk]
  · unfold newS
    by_cases hk : k = rootN <;> simp [hk]
  · by_cases hk : k = rootN
    · subst hk
      rw [if_pos rfl] at hb
      cases hb
      unfold newS at hS
      rw [if_pos rfl] at hS
      cases hS
      refine ⟨?_, .slice none 0 0, .slice none 0 0, (hset nb (by omega)).trans hn, ⟨rfl, .inl ⟨rfl, rfl⟩⟩, fun g hg => by simp [Value.ownBlock] at hg, ⟨rfl, .inl ⟨rfl, rfl⟩⟩, fun g hg => by simp [Value.ownBlock] at hg⟩
      unfold ownV
      rw [if_neg hvn]
      exact Own.set_same _ _ _
    · rw [if_neg hk] at hb; cases hb
  · unfold ownV at hj
    have hb := h.base
    by_cases hg : v.ownBlock = some j
    · have := hids j hg
      rw [hsz]; omega
    · rw [if_neg hg] at hj
      by_cases hjn : j = nb
      · subst hjn; rw [hsz]; omega
      · rw [Own.set_other hjn] at hj
        have := h1.lo j hj
        rw [hsz]; exact this
  · rw [hset j (by rintro rfl; rw [h.wyb] at hn; cases hn)]
    exact hB.block j hj
  · unfold ownV
    rw [if_neg (fun hg => by have := (hids j hg).1; omega), Own.set_other (by omega)]
end Go.Proofs.YtjgdfgpnmmkjfaaGreatDoor
namespace Go.Proofs.YtjgdfgpnmmkjfaaGreatDoor
set_option linter.unusedVariables false
set_option linter.unusedSimpArgs false
open Go.RowKit Go.MapKept
/-- What lies at a place of the list. -/
theorem RTr.at_ {w : World} {B yb : Nat} {who : Own} {nd : Bs → Option Nat} {S : Bs → Option ND} {l : List Bs} (h : RTr w B yb who nd S l) {lo : Option Addr} {lc : Nat} (hrow : w.ownsRow B 55 1 (.slice lo l.length lc) l.length (l.map fun p => ptrN (nd p))) {i : Nat} (hi : i < l.length) :
    ∃ g b, lo = some ⟨g, 0, none⟩ ∧ g < w.heap.size ∧ b < w.heap.size ∧ nd l[i] = some b ∧ w.cell? ⟨g, i, none⟩ = some (.pointer (some ⟨b, 0, none⟩)) ∧ w.cell? ⟨b, 0, none⟩ = some (.string ⟨l[i].toArray⟩) := by
  obtain ⟨b, nn, hnd, hS, hNA⟩ := h.of_mem (List.getElem_mem hi)
  obtain ⟨_, vs, ve, hcn, _⟩ := hNA
  rcases hrow.2 with ⟨_, h0⟩ | ⟨g, cap, cur, e1, hg1, hg2, hg3, hg4, hg5, hg6⟩
  · omega
  cases e1
  refine ⟨g, b, rfl, (Array.getElem?_eq_some_iff.1 hg2).1, (Array.getElem?_eq_some_iff.1 hcn).1, hnd, ?_, (vcells4 hcn).1⟩
  have hj : (l.map fun p => ptrN (nd p))[i]? = some (.pointer (some ⟨b, 0, none⟩)) := by rw [List.getElem?_map, List.getElem?_eq_getElem hi, Option.map_some, hnd]; rfl
  rw [← hg6, List.getElem?_take, if_pos (by omega)] at hj
  simp only [World.cell?, hg2]
  simpa using hj
set_option maxRecDepth 100000 in
set_option maxHeartbeats 800000 in
theorem rbelow_any {k key : Bs} {l q : List Bs} (hk : Cp k l) (hq : Cp key q) (h1 : k.length ≤ 100000) (h2 : key.length ≤ 100000) (w : World) : Calls Tryz.prog 59 #[.string ⟨k.toArray⟩, .string ⟨key.toArray⟩] w fun e w' => e = .returned (.bool (belK key k)) ∧ Below w.heap.size w w' := by
  have hb := below_iff hk hq
  have hpk : partsN k = l := by rw [hk.1]; exact parts_can l hk.2
  have hpq : partsN key = q := by rw [hq.1]; exact parts_can q hq.2
  have hwk := parts_w k
  have hwq := parts_w key
  rw [hpk] at hwk
  rw [hpq] at hwq
  obtain ⟨ln, hln⟩ : ∃ n, l.length = n := ⟨_, rfl⟩
  obtain ⟨qn, hqn⟩ : ∃ n, q.length = n := ⟨_, rfl⟩
  have PK : Hid (∀ W, Calls Tryz.prog 55 #[.string ⟨k.toArray⟩] W fun e w' => ∃ o c, e = .returned (.slice o ln c) ∧ TxtRow w' (.slice o ln c) l ∧ ln ≤ c ∧ Below W.heap.size W w') := fun W => (rParts_any k (by omega) W).mono fun e w' ⟨r, he, ho, hB⟩ => by
    rw [hpk] at ho
    obtain ⟨o, c, rfl⟩ := owns_slice ho
    rw [hln] at ho he
    have ht : TxtRow w' (.slice o ln c) l := TxtRow.of_owns (by rw [hln]; exact ho)
    exact ⟨o, c, he, ht, by have := ht.at_; omega, hB⟩
  have PQ : Hid (∀ W, Calls Tryz.prog 55 #[.string ⟨key.toArray⟩] W fun e w' => ∃ o c, e = .returned (.slice o qn c) ∧ TxtRow w' (.slice o qn c) q ∧ Below W.heap.size W w') := fun W => (rParts_any key (by omega) W).mono fun e w' ⟨r, he, ho, hB⟩ => by
    rw [hpq] at ho
    obtain ⟨o, c, rfl⟩ := owns_slice ho
    rw [hqn] at ho he
    exact ⟨o, c, he, TxtRow.of_owns (by rw [hqn]; exact ho), hB⟩
  have hwt := wN_take l qn
  obtain ⟨cq, hcq⟩ : ∃ x, canN q = x := ⟨_, rfl⟩
  obtain ⟨ct, hct⟩ : ∃ x, canN (l.take qn) = x := ⟨_, rfl⟩
  rw [hln, hqn, hcq, hct] at hb
  have O1 : Hid (∀ W v, TxtRow W v (l.take qn) → Calls Tryz.prog 57 #[v] W fun e w' => e = .returned (.string ⟨ct.toArray⟩) ∧ Below W.heap.size W w') := fun W v hv => by rw [← hct]; exact of_any _ v W hv (by omega)
  have O2 : Hid (∀ W v, TxtRow W v q → Calls Tryz.prog 57 #[v] W fun e w' => e = .returned (.string ⟨cq.toArray⟩) ∧ Below W.heap.size W w') := fun W v hv => by rw [← hcq]; exact of_any _ v W hv (by omega)
  have HB := Lib.hid (show belK key k = (decide (qn ≤ ln) && (ct == cq)) from by unfold belK; exact hb.symm)
  have tok : True := trivial
  have tok2 : True := trivial
  clear hk hq hb hpk hpq hwk hwq hln hqn hwt hcq hct
  by_cases hle : qn ≤ ln
  · have t0 : decide ((qn : Int) ≤ (ln : Int)) = true := by rw [decide_eq_true_eq]; omega
    go_enter Tryz.func59, Tryz.ntmps59
    go_wp2_with (first
      | (go_at_call 55; have _t := tok; refine (PK.out _).mono ?_; rintro e w1 ⟨o1, c1, rfl, ht, hc1, hB⟩; have H1 := Lib.hid (And.intro ht hB); clear ht hB tok _t)
      | (go_at_call 55; refine (PQ.out _).mono ?_; rintro e w2 ⟨o2, c2, rfl, ht, hB⟩; have H2 := Lib.hid (And.intro (H1.out.1.below hB) (And.intro ht (H1.out.2.trans (hB.mono H1.out.2.size)))); clear ht hB)
      | (go_at_call 57; have _t := tok2; refine (O1.out _ _ (by exact H2.out.1.take hle)).mono ?_; rintro e w3 ⟨rfl, hB⟩; have H3 := Lib.hid (And.intro (H2.out.2.1.below hB) (H2.out.2.2.trans (hB.mono H2.out.2.2.size))); clear hB tok2 _t)
      | (go_at_call 57; refine (O2.out _ _ (by exact H3.out.1)).mono ?_; rintro e w4 ⟨rfl, hB⟩; have H4 := Lib.hid (H3.out.2.trans (hB.mono H3.out.2.size)); clear hB))
    go_ret
    exact ⟨ret_bool (by rw [HB.out]; simp [hle]), H4.out⟩
  · have t0 : decide ((qn : Int) ≤ (ln : Int)) = false := by rw [decide_eq_false_iff_not]; omega
    go_enter Tryz.func59, Tryz.ntmps59
    go_wp2_with (first
      | (go_at_call 55; have _t := tok; refine (PK.out _).mono ?_; rintro e w1 ⟨o1, c1, rfl, ht, hc1, hB⟩; have H1 := Lib.hid (And.intro ht hB); clear ht hB tok _t)
      | (go_at_call 55; refine (PQ.out _).mono ?_; rintro e w2 ⟨o2, c2, rfl, ht, hB⟩; have H2 := Lib.hid (H1.out.2.trans (hB.mono H1.out.2.size)); clear ht hB))
    go_ret
    exact ⟨ret_bool (by rw [HB.out]; simp [hle]), H2.out⟩
theorem rDelete_none {w : World} {B yb : Nat} {who : Own} {nd : Bs → Option Nat} {S : Bs → Option ND} {l : List Bs} (h : RTr w B yb who nd S l) (hl : l.length ≤ 1000000) (s : Bs) (hs : s.length ≤ 100000) (hk : S (canonN rootN s) = none) :
    Calls Tryz.prog 25 #[.pointer (some ⟨yb, 0, none⟩), .string ⟨s.toArray⟩] w fun e w' => e = .returned (.tuple #[.slice none 0 0, .int .i64 8]) ∧ Below w.heap.size w w' := by
  have A0 := rat_any h hl s hs
  have hnd : nd (canonN rootN s) = none := by
    have h1 := h.same (canonN rootN s)
    rw [hk] at h1
    cases hx : nd (canonN rootN s) with
    | none => rfl
    | some x => rw [hx] at h1; simp at h1
  rw [hnd] at A0
  have A1 : Hid (Calls Tryz.prog 56 #[.pointer (some ⟨yb, 0, none⟩), .string ⟨s.toArray⟩] w fun e w' => e = .returned (.pointer none) ∧ Below w.heap.size w w') := A0
  clear h A0 hnd hk hs
  go_enter Tryz.func25, Tryz.ntmps25
  go_wp2_with (go_at_call 56; refine A1.out.mono ?_; rintro e w1 ⟨rfl, hB⟩; have HB1 := Lib.hid hB; clear hB)
  go_ret2
  exact ⟨rfl, HB1.out⟩
theorem filt_snocB {l : List Bs} {i : Nat} (f : Bs → Bool) (hi : i < l.length) : (l.take (i + 1)).filter f = (l.take i).filter f ++ (if f l[i] = true then [l[i]] else []) := by
  rw [List.take_succ_eq_append_getElem hi, List.filter_append]
  congr 1
  by_cases h : f l[i] = true <;> simp [h]
theorem filt_lenB (l : List Bs) (f : Bs → Bool) (i : Nat) : ((l.take i).filter f).length ≤ i := by
  have h1 := List.length_filter_le f (l.take i)
  have h2 := List.length_take_le i l
  omega
/-- While the reference goes over its namespaces. -/
structure DelJ (w : World) (key : Bs) (nd : Bs → Option Nat) (l : List Bs) (i gn kn : Nat) (go : Option Addr) (gc : Nat) (ko : Option Addr) (kc : Nat) (wr : World) : Prop where
  g : wr.ownsRow w.heap.size 9 1 (.slice go gn gc) gn (((l.take i).filter (goneR key)).map sv)
  gl : ((l.take i).filter (goneR key)).length = gn
  kl : ((l.take i).filter (fun k => !goneR key k)).length = kn
  b : Below w.heap.size w wr
theorem row_other {w1 w3 : World} {base b2 n m : Nat} {e f : TypeId} {u v : Value} {xs ys : List Value} (hu : w1.ownsRow base e 1 u n xs) (hv : w1.ownsRow b2 f 1 v m ys) (hne : e ≠ f) (hk : Kp v.ownBlock.toList w1 w3) : w3.ownsRow base e 1 u n xs :=
  row_keep hu (fun g hg => hk.block g (hu.lt g hg).2 (fun hm => by
    obtain ⟨_, c1, h1⟩ := ownsRow_type hu g hg
    obtain ⟨_, c2, h2⟩ := ownsRow_type hv g (by simpa using hm)
    rw [h1] at h2
    simp only [Option.some.injEq, Obj.cells.injEq] at h2
    exact hne h2.2.1))
set_option maxRecDepth 100000 in
set_option maxHeartbeats 3200000 in
theorem rDelete_other {w : World} {B yb : Nat} {who : Own} {nd : Bs → Option Nat} {S : Bs → Option ND} {l : List Bs} {n0 : Nat} (h : RTr w B yb who nd S l) (hG : Gd S n0) (hn0 : n0 ≤ 50000) {ks : List Bs} (hks : KeysOf S ks) (s : Bs) (hs : s.length ≤ 20000) (hk : (S (canonN rootN s)).isSome = true) (hr : canonN rootN s ≠ rootN) :
    Calls Tryz.prog 25 #[.pointer (some ⟨yb, 0, none⟩), .string ⟨s.toArray⟩] w fun e w' => ∃ vo who' nd' l', e = .returned (.tuple #[vo, .int .i64 0]) ∧ RTr w' B yb who' nd' (delS S (canonN rootN s) ks) l' ∧ Stp who who' w w' ∧ TxtRow w' vo (srt (goneL (canonN rootN s) ks)) := by
  have hll : l.length ≤ 50000 := Nat.le_trans (hG.cnt l h.nodup (fun k hk => (h.mem k).1 hk)) hn0
  have A0 := rat_any h (by omega) s (by omega)
  have hgs := gone_srt hG hks hk h.nodup h.mem
  have hcl3 := canon_len3 s
  obtain ⟨q, hq, _⟩ := hG.key _ hk
  have CA : Hid (∀ W, Calls Tryz.prog 58 #[.string ⟨#[58, 58]⟩, .string ⟨s.toArray⟩] W fun e w' => e = .returned (.string ⟨(canonN rootN s).toArray⟩) ∧ Below W.heap.size W w') := fun W => rCanonical_any rootN s (by decide) (by omega) W
  have hsm := h.same (canonN rootN s)
  rw [hk] at hsm
  have hdel := del_other hG hks hk hr
  have hro := root_out hq hr
  generalize canonN rootN s = key at *
  obtain ⟨b0, hb0⟩ := Option.isSome_iff_exists.1 hsm
  rw [hb0] at A0
  have A1 : Hid (Calls Tryz.prog 56 #[.pointer (some ⟨yb, 0, none⟩), .string ⟨s.toArray⟩] w fun e w' => e = .returned (.pointer (some ⟨b0, 0, none⟩)) ∧ Below w.heap.size w w') := A0
  have BE : Hid (∀ W k, k ∈ l → Calls Tryz.prog 59 #[.string ⟨k.toArray⟩, .string ⟨key.toArray⟩] W fun e w' => e = .returned (.bool (belK key k)) ∧ Below W.heap.size W w') := fun W k hkm => by
    obtain ⟨q', hq', hkl, _⟩ := hG.key k ((h.mem k).1 hkm)
    exact rbelow_any hq' hq (by omega) (by omega) W
  have SO : Hid (∀ W v, TxtRow W v (l.filter (goneR key)) → Calls Tryz.prog 60 #[v] W fun e w' => ∃ vo, e = .returned vo ∧ TxtRow w' vo (srt (goneL key ks)) ∧ Below W.heap.size W w') := fun W v hv => by
    rw [← hgs]
    refine rSorted_any hv ?_ (fun x hx => ?_)
    · have := List.length_filter_le (goneR key) l; omega
    · obtain ⟨_, _, h2, _⟩ := hG.key x ((h.mem x).1 (List.mem_filter.1 hx).1)
      omega
  obtain ⟨lo, lc, hcl, hrow, htag⟩ := h.lvOf
  have HH := Lib.hid (And.intro h (And.intro hrow hcl))
  obtain ⟨n, hn⟩ : ∃ n, l.length = n := ⟨_, rfl⟩
  have HN := Lib.hid hn
  have HC : Hid (∀ W, Below w.heap.size w W → W.cell? ⟨yb, 0, none⟩ = some (.slice lo n lc) ∧ W.frozen? ⟨yb, 0, none⟩ = false) := fun W hb => by
    have c1 := vcells1 ((hb.block yb h.lt).trans hcl)
    rw [hn] at c1
    exact ⟨c1.1, c1.2 0⟩
  have hkl : n ≤ lc ∨ n = 0 := by
    rcases hrow.2 with ⟨_, h0⟩ | ⟨g, cap, cur, e, _, _, h1, _⟩
    · exact .inr (by omega)
    · cases e; exact .inl (by omega)
  have hgr : ∀ k, goneR key k = belK key k := fun k => by
    unfold goneR
    by_cases e : k = rootN
    · subst e; rw [hro]; rfl
    · simp [e]
  have HD := Lib.hid (And.intro hdel (And.intro hgr hro))
  rw [hn] at hll
  clear h hG hks hgs hq A0 hsm hb0 hcl hrow htag hn hk hr hro hdel hgr
  go_enter Tryz.func25, Tryz.ntmps25
  go_wp2_with (first | (go_at_call 56; refine A1.out.mono ?_; rintro e w1 ⟨rfl, hB⟩; have HB1 := Lib.hid hB; clear hB) | (go_at_call 58; refine (CA.out _).mono ?_; rintro e w2 ⟨rfl, hB⟩; have hb2 := HB1.out.trans (hB.mono HB1.out.size); have HB2 := Lib.hid hb2; obtain ⟨d0, _⟩ := HC.out _ hb2; clear hB hb2))
  go_loopw [22, 7, 8] (fun qv gv kv wr => ∃ (i gn kn : Nat) (go ko : Option Addr) (gc kc : Nat), i ≤ n ∧ qv = .int .i64 (i : Int) ∧ gv = .slice go gn gc ∧ kv = .slice ko kn kc ∧ DelJ w key nd l i gn kn go gc ko kc wr ∧ wr.ownsRow w.heap.size 55 1 (.slice ko kn kc) kn (((l.take i).filter (fun k => !goneR key k)).map fun p => ptrN (nd p))) (fun q _ _ _ => n - (intOf q).toNat)
  case atStart => exact ⟨0, 0, 0, none, none, 0, 0, Nat.zero_le _, rfl, rfl, rfl, ⟨⟨rfl, .inl ⟨rfl, rfl⟩⟩, by simp, by simp, HB2.out⟩, ⟨rfl, .inl ⟨rfl, rfl⟩⟩⟩
  case round =>
    obtain ⟨i, gn, kn, go, ko, gc, kc, hi, rfl, rfl, rfl, hJ, hK⟩ := hrel
    have HJ := Lib.hid (And.intro hJ hK)
    have hB := hJ.b
    by_cases hlt : i < n
    · have hil : i < l.length := by have := HN.out; omega
      obtain ⟨g, b, rfl, hgl, hbl, hnd, c0, c1⟩ := HH.out.1.at_ HH.out.2.1 hil
      have d1 := (hB.cell (p := ⟨g, i, none⟩) hgl).trans c0
      have HP : Hid (∀ W, Below w.heap.size w W → W.cell? ⟨b, 0, none⟩ = some (.string ⟨l[i].toArray⟩)) := fun W hb => (hb.cell (p := ⟨b, 0, none⟩) hbl).trans c1
      have d2 := HP.out wr hB
      have hs1 := filt_snocB (goneR key) hil
      have hs2 := filt_snocB (fun k => !goneR key k) hil
      have hgl2 := filt_lenB l (goneR key) i
      have hkl2 := filt_lenB l (fun k => !goneR key k) i
      rw [hJ.gl] at hgl2
      rw [hJ.kl] at hkl2
      have BK := Lib.hid (fun W => BE.out W l[i] (List.getElem_mem hil))
      have hgk := HD.out.2.1 l[i]
      have hrk : belK key l[i] = true → l[i] ≠ rootN := fun hb e => by rw [e, HD.out.2.2] at hb; cases hb
      generalize l[i] = k at *
      have i1 : i < n := hlt
      have i2 : decide ((i : Int) < (n : Int)) = true := by rw [decide_eq_true_eq]; omega
      have hw1 : IntKind.i64.wrap ((i : Int) + 1) = (i : Int) + 1 := IntWalk.i64_in _ (by omega)
      have HI := Lib.hid (And.intro hlt (And.intro hs1 (And.intro hs2 (And.intro hnd hgk))))
      clear hi hlt hJ hK hil hgl hbl c0 c1 hs1 hs2 hnd hgk
      cases hbk : belK key k with
      | true =>
        rw [hbk] at BK HI
        have hk1 := hrk hbk
        have b1 : (k == [58, 58]) = false := beq_eq_false_iff_ne.2 hk1
        clear hrk hbk hk1
        go_wp2_with (first
          | (go_at_call 59; refine (BK.out _).mono ?_; rintro e w3 ⟨rfl, hB3⟩; have hb3 := hB.trans (hB3.mono hB.size); have d3 := HP.out w3 hb3; have H3 : Hid (w3.ownsRow w.heap.size 9 1 (.slice go gn gc) gn (((l.take i).filter (goneR key)).map sv) ∧ w3.ownsRow w.heap.size 55 1 (.slice ko kn kc) kn (((l.take i).filter (fun k => !goneR key k)).map fun p => ptrN (nd p)) ∧ Below w.heap.size w w3) := ⟨row_keep HJ.out.1.g (fun j hj => hB3.block j (HJ.out.1.g.lt j hj).2), row_keep HJ.out.2 (fun j hj => hB3.block j (HJ.out.2.lt j hj).2), hb3⟩; clear hb3 hB3)
          | (at_builtin; go_loud (refine wpList_push1 rfl (.tmp 26) (.tmp 31) 27 rfl w.heap.size 9 (.string ⟨#[]⟩) 16 Tryz.underlying27 infoStr rfl (.slice go gn gc) gn _ rfl H3.out.1 (.string ⟨k.toArray⟩) _ rfl rfl rfl (by unfold maxLen; omega) (by omega) (by exact H3.out.2.2.size) ?_); intro g4 c4 w4 hg4 hown4 hk4 hloc; have H4 := Lib.hid (And.intro hown4 (And.intro (row_other H3.out.2.1 H3.out.1 (by decide) hk4) (H3.out.2.2.trans (hk4.below H3.out.2.2.size (fun d hd => (row_ids H3.out.1 d (by simpa using hd)).1))))); clear hg4 hown4 hk4 hloc))
        refine ⟨⟨i + 1, gn + 1, kn, _, _, c4, kc, by have := HI.out.1; omega, by go_num, rfl, rfl, ⟨?_, ?_, ?_, H4.out.2.2⟩, ?_⟩, by have := HI.out.1; simp [intOf]; omega⟩
        · rw [HI.out.2.1, HI.out.2.2.2.2]; simpa [sv] using H4.out.1
        · rw [HI.out.2.1, HI.out.2.2.2.2]; simp [HJ.out.1.gl]
        · rw [HI.out.2.2.1, HI.out.2.2.2.2]; simp [HJ.out.1.kl]
        · rw [HI.out.2.2.1, HI.out.2.2.2.2]; simpa using H4.out.2.1
      | false =>
        rw [hbk] at BK HI
        clear hrk hbk
        go_wp2_with (first
          | (go_at_call 59; refine (BK.out _).mono ?_; rintro e w3 ⟨rfl, hB3⟩; have hb3 := hB.trans (hB3.mono hB.size); have d3 := HP.out w3 hb3; have H3 : Hid (w3.ownsRow w.heap.size 9 1 (.slice go gn gc) gn (((l.take i).filter (goneR key)).map sv) ∧ w3.ownsRow w.heap.size 55 1 (.slice ko kn kc) kn (((l.take i).filter (fun k => !goneR key k)).map fun p => ptrN (nd p)) ∧ Below w.heap.size w w3) := ⟨row_keep HJ.out.1.g (fun j hj => hB3.block j (HJ.out.1.g.lt j hj).2), row_keep HJ.out.2 (fun j hj => hB3.block j (HJ.out.2.lt j hj).2), hb3⟩; clear hb3 hB3)
          | (at_builtin; go_loud (refine wpList_push1 rfl (.tmp 41) (.tmp 43) 58 rfl w.heap.size 55 (.pointer none) 8 Tryz.underlying58 infoSp rfl (.slice ko kn kc) kn _ rfl H3.out.2.1 (.pointer (some ⟨b, 0, none⟩)) _ rfl rfl rfl (by unfold maxLen; omega) (by omega) (by exact H3.out.2.2.size) ?_); intro g4 c4 w4 hg4 hown4 hk4 hloc; have H4 := Lib.hid (And.intro hown4 (And.intro (row_other H3.out.1 H3.out.2.1 (by decide) hk4) (H3.out.2.2.trans (hk4.below H3.out.2.2.size (fun d hd => (row_ids H3.out.2.1 d (by simpa using hd)).1))))); clear hg4 hown4 hk4 hloc))
        refine ⟨⟨i + 1, gn, kn + 1, _, _, gc, c4, by have := HI.out.1; omega, by go_num, rfl, rfl, ⟨?_, ?_, ?_, H4.out.2.2⟩, ?_⟩, by have := HI.out.1; simp [intOf]; omega⟩
        · rw [HI.out.2.1, HI.out.2.2.2.2]; simpa using H4.out.2.1
        · rw [HI.out.2.1, HI.out.2.2.2.2]; simp [HJ.out.1.gl]
        · rw [HI.out.2.2.1, HI.out.2.2.2.2]; simp [HJ.out.1.kl]
        · rw [HI.out.2.2.1, HI.out.2.2.2.2]
          have h4 := H4.out.1
          simp only [Bool.not_false, if_true, List.map_append, List.map_cons, List.map_nil, HI.out.2.2.2.1]
          simpa [ptrN] using h4
    · obtain rfl : i = n := by omega
      have i2 : decide ((i : Int) < (i : Int)) = false := by rw [decide_eq_false_iff_not]; omega
      obtain ⟨e0, e1⟩ := HC.out wr hB
      have htk : l.take i = l := by rw [← HN.out, List.take_length]
      have hg := hJ.g
      have hgl := hJ.gl
      have hkl3 := hJ.kl
      rw [htk] at hg hgl hK hkl3
      rw [← hkl3] at hK
      obtain ⟨t1, s1⟩ := HH.out.1.dropped (fun k => !goneR key k) HD.out.1 hB hK
      rw [hkl3] at t1 s1
      have hset : TxtRow (wr.setCell ⟨yb, 0, none⟩ (.slice ko kn kc)) (.slice go gn gc) (l.filter (goneR key)) := by
        refine TxtRow.of_owns (base := w.heap.size) ?_
        rw [hgl]
        refine row_keep hg (fun j hj => Below.heap_setCell wr ⟨yb, 0, none⟩ _ j ?_)
        have := (row_ids hg j hj).1
        have := HH.out.1.lt
        show j ≠ yb
        omega
      have SK := Lib.hid (SO.out _ _ hset)
      have HF := Lib.hid (And.intro t1 s1)
      clear hi hlt hJ hK hg hgl hkl3 htk t1 s1 hset
      go_wp2_with (go_at_call 60; refine SK.out.mono ?_; rintro e w6 ⟨vo, rfl, hr, hb6⟩; have H6 := Lib.hid (And.intro hr hb6); clear hr hb6)
      go_ret2
      exact ⟨vo, _, _, _, rfl, HF.out.1.low H6.out.2, HF.out.2.low H6.out.2, H6.out.1⟩
/-- What the new list is, while it is gathered: nothing, or the first namespace alone. -/
def RootJ (w : World) (l : List Bs) (i : Nat) (ko : Option Addr) (kn kc : Nat) (wr : World) : Prop :=
  (rootN ∉ l.take i ∧ kn = 0 ∧ ko = none ∧ kc = 0) ∨ (rootN ∈ l.take i ∧ kn = 1 ∧ ∃ nb, w.heap.size ≤ nb ∧ wr.heap[nb]? = some (rnode rootN) ∧ wr.ownsRow w.heap.size 55 1 (.slice ko kn kc) 1 [.pointer (some ⟨nb, 0, none⟩)])
theorem RootJ.low {w : World} {l : List Bs} {i : Nat} {ko : Option Addr} {kn kc : Nat} {wr w3 : World} (h : RootJ w l i ko kn kc wr) (hk : ∀ (j : Nat) (c : Array Value) (t : TypeId) (f : Nat × Nat), wr.heap[j]? = some (.cells c t f) → t ≠ 9 → w3.heap[j]? = wr.heap[j]?) : RootJ w l i ko kn kc w3 := by
  rcases h with h | ⟨h1, h2, nb, h3, h4, h5⟩
  · exact .inl h
  · refine .inr ⟨h1, h2, nb, h3, (hk nb _ _ _ h4 (by decide)).trans h4, row_keep h5 (fun g hg => ?_)⟩
    obtain ⟨_, cur, hc⟩ := ownsRow_type h5 g hg
    exact hk g _ _ _ hc (by decide)
theorem RootJ.next {w : World} {l : List Bs} {i : Nat} {ko : Option Addr} {kn kc : Nat} {wr : World} (h : RootJ w l i ko kn kc wr) (hi : i < l.length) (hr : l[i] ≠ rootN) : RootJ w l (i + 1) ko kn kc wr := by
  have e : rootN ∈ l.take (i + 1) ↔ rootN ∈ l.take i := by
    rw [List.take_succ_eq_append_getElem hi, List.mem_append, List.mem_singleton]
    exact ⟨fun h => h.elim id (fun e => absurd e.symm hr), .inl⟩
  unfold RootJ
  rw [e]
  exact h
theorem row_keepT {w1 w3 : World} {b2 m : Nat} {ys : List Value} {v : Value} (hv : w1.ownsRow b2 9 1 v m ys) (hk : Kp v.ownBlock.toList w1 w3) : ∀ (j : Nat) (c : Array Value) (t : TypeId) (f : Nat × Nat), w1.heap[j]? = some (.cells c t f) → t ≠ 9 → w3.heap[j]? = w1.heap[j]? := fun j c t f hj ht =>
  hk.block j (Array.getElem?_eq_some_iff.1 hj).1 (fun hm => by
    obtain ⟨_, c2, h2⟩ := ownsRow_type hv j (by simpa using hm)
    rw [hj] at h2
    simp only [Option.some.injEq, Obj.cells.injEq] at h2
    exact ht h2.2.1)
set_option maxRecDepth 100000 in
set_option maxHeartbeats 3200000 in
theorem rDelete_root {w : World} {B yb : Nat} {who : Own} {nd : Bs → Option Nat} {S : Bs → Option ND} {l : List Bs} {n0 : Nat} (h : RTr w B yb who nd S l) (hG : Gd S n0) (hn0 : n0 ≤ 50000) {ks : List Bs} (hks : KeysOf S ks) (s : Bs) (hs : s.length ≤ 20000) (hk : (S (canonN rootN s)).isSome = true) (hr : canonN rootN s = rootN) :
    Calls Tryz.prog 25 #[.pointer (some ⟨yb, 0, none⟩), .string ⟨s.toArray⟩] w fun e w' => ∃ vo who' nd' l', e = .returned (.tuple #[vo, .int .i64 0]) ∧ RTr w' B yb who' nd' (delS S (canonN rootN s) ks) l' ∧ Stp who who' w w' ∧ TxtRow w' vo (srt (goneL (canonN rootN s) ks)) := by
  have hll : l.length ≤ 50000 := Nat.le_trans (hG.cnt l h.nodup (fun k hk => (h.mem k).1 hk)) hn0
  have A0 := rat_any h (by omega) s (by omega)
  have hgs := gone_srt hG hks hk h.nodup h.mem
  have hcl3 := canon_len3 s
  obtain ⟨q, hq, _⟩ := hG.key _ hk
  have CA : Hid (∀ W, Calls Tryz.prog 58 #[.string ⟨#[58, 58]⟩, .string ⟨s.toArray⟩] W fun e w' => e = .returned (.string ⟨(canonN rootN s).toArray⟩) ∧ Below W.heap.size W w') := fun W => rCanonical_any rootN s (by decide) (by omega) W
  have hsm := h.same (canonN rootN s)
  rw [hk] at hsm
  rw [hr] at *
  have hdel := del_root hG hks
  obtain ⟨b0, hb0⟩ := Option.isSome_iff_exists.1 hsm
  rw [hb0] at A0
  have A1 : Hid (Calls Tryz.prog 56 #[.pointer (some ⟨yb, 0, none⟩), .string ⟨s.toArray⟩] w fun e w' => e = .returned (.pointer (some ⟨b0, 0, none⟩)) ∧ Below w.heap.size w w') := A0
  have BE : Hid (∀ W k, k ∈ l → Calls Tryz.prog 59 #[.string ⟨k.toArray⟩, .string ⟨#[58, 58]⟩] W fun e w' => e = .returned (.bool (belK rootN k)) ∧ Below W.heap.size W w') := fun W k hkm => by
    obtain ⟨q', hq', hkl, _⟩ := hG.key k ((h.mem k).1 hkm)
    exact rbelow_any hq' hq (by omega) (by omega) W
  have SO : Hid (∀ W v, TxtRow W v (l.filter (goneR rootN)) → Calls Tryz.prog 60 #[v] W fun e w' => ∃ vo, e = .returned vo ∧ TxtRow w' vo (srt (goneL rootN ks)) ∧ Below W.heap.size W w') := fun W v hv => by
    rw [← hgs]
    refine rSorted_any hv ?_ (fun x hx => ?_)
    · have := List.length_filter_le (goneR rootN) l; omega
    · obtain ⟨_, _, h2, _⟩ := hG.key x ((h.mem x).1 (List.mem_filter.1 hx).1)
      omega
  obtain ⟨lo, lc, hcl, hrow, htag⟩ := h.lvOf
  have HH := Lib.hid (And.intro h (And.intro hrow hcl))
  obtain ⟨n, hn⟩ : ∃ n, l.length = n := ⟨_, rfl⟩
  have HN := Lib.hid hn
  have HC : Hid (∀ W, Below w.heap.size w W → W.cell? ⟨yb, 0, none⟩ = some (.slice lo n lc) ∧ W.frozen? ⟨yb, 0, none⟩ = false) := fun W hb => by
    have c1 := vcells1 ((hb.block yb h.lt).trans hcl)
    rw [hn] at c1
    exact ⟨c1.1, c1.2 0⟩
  have hkl : n ≤ lc ∨ n = 0 := by
    rcases hrow.2 with ⟨_, h0⟩ | ⟨g, cap, cur, e, _, _, h1, _⟩
    · exact .inr (by omega)
    · cases e; exact .inl (by omega)
  have hgr : ∀ k ∈ l, goneR rootN k = !(k == rootN) ∧ belK rootN k = true := fun k hkm => by
    obtain ⟨q', hq', _⟩ := hG.key k ((h.mem k).1 hkm)
    have hb : belK rootN k = true := by
      unfold belK
      have : Lib.hasPrefix k (headB rootN) = true := pre_iff.2 ⟨joinN q', by rw [hq'.1]; rfl⟩
      unfold inBel
      rw [this]
      by_cases e : k = rootN <;> simp [e]
    exact ⟨by unfold goneR; rw [hb]; rfl, hb⟩
  have HD := Lib.hid (And.intro hdel (And.intro hgr (And.intro h.nodup ((h.mem rootN).2 hG.root))))
  rw [hn] at hll
  clear h hG hks hgs hq A0 hsm hb0 hcl hrow htag hn hk hr hdel hgr hcl3
  go_enter Tryz.func25, Tryz.ntmps25
  go_wp2_with (first | (go_at_call 56; refine A1.out.mono ?_; rintro e w1 ⟨rfl, hB⟩; have HB1 := Lib.hid hB; clear hB) | (go_at_call 58; refine (CA.out _).mono ?_; rintro e w2 ⟨rfl, hB⟩; have hb2 := HB1.out.trans (hB.mono HB1.out.size); have HB2 := Lib.hid hb2; obtain ⟨d0, _⟩ := HC.out _ hb2; clear hB hb2))
  go_loopw [22, 7, 8] (fun qv gv kv wr => ∃ (i gn kn : Nat) (go ko : Option Addr) (gc kc : Nat), i ≤ n ∧ qv = .int .i64 (i : Int) ∧ gv = .slice go gn gc ∧ kv = .slice ko kn kc ∧ wr.ownsRow w.heap.size 9 1 (.slice go gn gc) gn (((l.take i).filter (goneR rootN)).map sv) ∧ ((l.take i).filter (goneR rootN)).length = gn ∧ Below w.heap.size w wr ∧ RootJ w l i ko kn kc wr) (fun q _ _ _ => n - (intOf q).toNat)
  case atStart => exact ⟨0, 0, 0, none, none, 0, 0, Nat.zero_le _, rfl, rfl, rfl, ⟨rfl, .inl ⟨rfl, rfl⟩⟩, by simp, HB2.out, .inl ⟨by simp, rfl, rfl, rfl⟩⟩
  case round =>
    obtain ⟨i, gn, kn, go, ko, gc, kc, hi, rfl, rfl, rfl, hg, hgn, hB, hK⟩ := hrel
    have HJ := Lib.hid (And.intro hg (And.intro hgn hK))
    by_cases hlt : i < n
    · have hil : i < l.length := by have := HN.out; omega
      obtain ⟨g, b, rfl, hgl, hbl, hnd, c0, c1⟩ := HH.out.1.at_ HH.out.2.1 hil
      have d1 := (hB.cell (p := ⟨g, i, none⟩) hgl).trans c0
      have HP : Hid (∀ W, Below w.heap.size w W → W.cell? ⟨b, 0, none⟩ = some (.string ⟨l[i].toArray⟩)) := fun W hb => (hb.cell (p := ⟨b, 0, none⟩) hbl).trans c1
      have d2 := HP.out wr hB
      have hs1 := filt_snocB (goneR rootN) hil
      have hgl2 := filt_lenB l (goneR rootN) i
      rw [hgn] at hgl2
      obtain ⟨hgk, hbk⟩ := HD.out.2.1 l[i] (List.getElem_mem hil)
      have BK := Lib.hid (fun W => BE.out W l[i] (List.getElem_mem hil))
      rw [hbk] at BK
      have HNX : Hid (∀ W, RootJ w l i ko kn kc W → l[i] ≠ rootN → RootJ w l (i + 1) ko kn kc W) := fun W h hr => h.next hil hr
      have HRT : Hid (l[i] = rootN → rootN ∉ l.take i ∧ rootN ∈ l.take (i + 1)) := fun e => by
        have hnd2 := HD.out.2.2.1
        rw [← List.take_append_drop (i + 1) l, List.take_succ_eq_append_getElem hil, e] at hnd2
        rw [List.nodup_append, List.nodup_append] at hnd2
        refine ⟨fun hm => hnd2.1.2.2 rootN hm rootN (by simp) rfl, ?_⟩
        rw [List.take_succ_eq_append_getElem hil, e]; simp
      generalize l[i] = k at *
      have i1 : i < n := hlt
      have i2 : decide ((i : Int) < (n : Int)) = true := by rw [decide_eq_true_eq]; omega
      have hw1 : IntKind.i64.wrap ((i : Int) + 1) = (i : Int) + 1 := IntWalk.i64_in _ (by omega)
      have HI := Lib.hid (And.intro hlt (And.intro hs1 hgk))
      have BKs : Hid (∀ W, Below W.heap.size wr W → True) := fun _ _ => trivial
      clear BKs
      have hLOW : Hid (∀ w3, Below wr.heap.size wr w3 → w3.ownsRow w.heap.size 9 1 (.slice go gn gc) gn (((l.take i).filter (goneR rootN)).map sv) ∧ Below w.heap.size w w3 ∧ RootJ w l i ko kn kc w3) := fun w3 hb3 => ⟨row_keep hg (fun j hj => hb3.block j (hg.lt j hj).2), hB.trans (hb3.mono hB.size), hK.low (fun j c t f hj _ => hb3.block j (Array.getElem?_eq_some_iff.1 hj).1)⟩
      clear hi hlt hg hgn hK hil hgl hbl c0 c1 hs1 hnd hgk hbk hB
      by_cases hk1 : k = rootN
      · obtain ⟨hno, hyes⟩ := HRT.out hk1
        have hkn : kn = 0 ∧ ko = none ∧ kc = 0 := by
          rcases HJ.out.2.2 with h | h
          · exact h.2
          · exact absurd h.1 hno
        obtain ⟨rfl, rfl, rfl⟩ := hkn
        have hk2 : k = [58, 58] := hk1
        have HY : Hid (rootN ∈ l.take (i + 1) ∧ goneR rootN k = false) := ⟨hyes, by rw [HI.out.2.2, hk1]; rfl⟩
        subst hk2
        clear hk1 hno hyes HRT HNX
        go_wp2_with (first
          | (go_at_call 59; refine (BK.out _).mono ?_; rintro e w3 ⟨rfl, hB3⟩; obtain ⟨z1, z2, z3⟩ := hLOW.out w3 hB3; have d3 := HP.out w3 z2; have H3 := Lib.hid (And.intro z1 (And.intro z2 z3)); clear z1 z2 z3 hB3)
          | (at_builtin; go_loud (refine wpList_push1 rfl (.tmp 51) (.tmp 54) 58 rfl w.heap.size 55 (.pointer none) 8 Tryz.underlying58 infoSp rfl (.slice none 0 0) 0 [] rfl ⟨rfl, .inl ⟨rfl, rfl⟩⟩ (.pointer (some ⟨w3.heap.size, 0, none⟩)) (w3.heap.size + 1) (by simp) rfl rfl (by unfold maxLen; decide) (by decide) (by have := H3.out.2.1.size; simp; omega) ?_); intro g4 c4 w4 hg4 hown4 hk4 hloc; have H4 := Lib.hid (And.intro hown4 hk4); clear hg4 hown4 hk4 hloc))
        have hal : Below w.heap.size w (w3.alloc (rnode rootN)) := H3.out.2.1.alloc H3.out.2.1.size _
        have hb4 : Below w.heap.size w w4 := hal.trans (H4.out.2.below hal.size (fun d hd => by simp [Value.ownBlock] at hd))
        have hold : ∀ j, j < w3.heap.size → w4.heap[j]? = w3.heap[j]? := fun j hj => (H4.out.2.block j (by simp; omega) (by simp [Value.ownBlock])).trans (Below.heap_alloc _ _ _ hj)
        refine ⟨⟨i + 1, gn, 1, _, _, gc, c4, by have := HI.out.1; omega, by go_num, rfl, rfl, ?_, ?_, hb4, .inr ⟨HY.out.1, rfl, w3.heap.size, H3.out.2.1.size, ?_, ?_⟩⟩, by have := HI.out.1; simp [intOf]; omega⟩
        · rw [HI.out.2.1, HY.out.2]; simpa using row_keep H3.out.1 (fun j hj => hold j (H3.out.1.lt j hj).2)
        · rw [HI.out.2.1, HY.out.2]; simp [HJ.out.2.1]
        · exact (H4.out.2.block w3.heap.size (by simp) (by simp [Value.ownBlock])).trans (heap_alloc_new w3 (rnode rootN))
        · simpa using H4.out.1
      · have b1 : (k == [58, 58]) = false := beq_eq_false_iff_ne.2 hk1
        have HY : Hid (goneR rootN k = true) := by rw [HI.out.2.2, beq_eq_false_iff_ne.2 hk1]; rfl
        have HZ := Lib.hid hk1
        clear hk1 HRT
        go_wp2_with (first
          | (go_at_call 59; refine (BK.out _).mono ?_; rintro e w3 ⟨rfl, hB3⟩; obtain ⟨z1, z2, z3⟩ := hLOW.out w3 hB3; have d3 := HP.out w3 z2; have H3 := Lib.hid (And.intro z1 (And.intro z2 z3)); clear z1 z2 z3 hB3)
          | (at_builtin; go_loud (refine wpList_push1 rfl (.tmp 26) (.tmp 31) 27 rfl w.heap.size 9 (.string ⟨#[]⟩) 16 Tryz.underlying27 infoStr rfl (.slice go gn gc) gn _ rfl H3.out.1 (.string ⟨k.toArray⟩) _ rfl rfl rfl (by unfold maxLen; omega) (by omega) (by exact H3.out.2.1.size) ?_); intro g4 c4 w4 hg4 hown4 hk4 hloc; have H4 := Lib.hid (And.intro hown4 hk4); clear hg4 hown4 hk4 hloc))
        refine ⟨⟨i + 1, gn + 1, kn, _, _, c4, kc, by have := HI.out.1; omega, by go_num, rfl, rfl, ?_, ?_, H3.out.2.1.trans (H4.out.2.below H3.out.2.1.size (fun d hd => (row_ids H3.out.1 d (by simpa using hd)).1)), HNX.out _ (H3.out.2.2.low (row_keepT H3.out.1 H4.out.2)) HZ.out⟩, by have := HI.out.1; simp [intOf]; omega⟩
        · rw [HI.out.2.1, HY.out]; simpa [sv] using H4.out.1
        · rw [HI.out.2.1, HY.out]; simp [HJ.out.2.1]
    · obtain rfl : i = n := by omega
      have i2 : decide ((i : Int) < (i : Int)) = false := by rw [decide_eq_false_iff_not]; omega
      obtain ⟨e0, e1⟩ := HC.out wr hB
      have htk : l.take i = l := by rw [← HN.out, List.take_length]
      rw [htk] at hg hgn
      have hKr : kn = 1 ∧ ∃ nb, w.heap.size ≤ nb ∧ wr.heap[nb]? = some (rnode rootN) ∧ wr.ownsRow w.heap.size 55 1 (.slice ko kn kc) 1 [.pointer (some ⟨nb, 0, none⟩)] := by
        rcases hK with h | h
        · exact absurd (by rw [htk]; exact HD.out.2.2.2) h.1
        · exact h.2
      obtain ⟨rfl, nb, hnb, hnw, hnr⟩ := hKr
      obtain ⟨who', t1, s1⟩ := HH.out.1.reset hB hnb hnw hnr
      have hset : TxtRow (wr.setCell ⟨yb, 0, none⟩ (.slice ko 1 kc)) (.slice go gn gc) (l.filter (goneR rootN)) := by
        refine TxtRow.of_owns (base := w.heap.size) ?_
        rw [hgn]
        refine row_keep hg (fun j hj => Below.heap_setCell wr ⟨yb, 0, none⟩ _ j ?_)
        have := (row_ids hg j hj).1
        have := HH.out.1.lt
        show j ≠ yb
        omega
      have SK := Lib.hid (SO.out _ _ hset)
      have HF := Lib.hid (And.intro t1 s1)
      clear hi hlt hg hgn hK hB htk t1 s1 hset hnb hnw hnr
      go_wp2_with (go_at_call 60; refine SK.out.mono ?_; rintro e w6 ⟨vo, rfl, hr, hb6⟩; have H6 := Lib.hid (And.intro hr hb6); clear hr hb6)
      go_ret2
      refine ⟨vo, who', (fun k => if k = rootN then some nb else none), [rootN], rfl, ?_, HF.out.2.low H6.out.2, H6.out.1⟩
      rw [HD.out.1]
      exact HF.out.1.low H6.out.2
theorem rDelete_any {w : World} {B yb : Nat} {who : Own} {nd : Bs → Option Nat} {S : Bs → Option ND} {l : List Bs} {n0 : Nat} (h : RTr w B yb who nd S l) (hG : Gd S n0) (hn0 : n0 ≤ 50000) {ks : List Bs} (hks : KeysOf S ks) (s : Bs) (hs : s.length ≤ 20000) (hk : (S (canonN rootN s)).isSome = true) :
    Calls Tryz.prog 25 #[.pointer (some ⟨yb, 0, none⟩), .string ⟨s.toArray⟩] w fun e w' => ∃ vo who' nd' l', e = .returned (.tuple #[vo, .int .i64 0]) ∧ RTr w' B yb who' nd' (delS S (canonN rootN s) ks) l' ∧ Stp who who' w w' ∧ TxtRow w' vo (srt (goneL (canonN rootN s) ks)) := by
  by_cases hr : canonN rootN s = rootN
  · exact rDelete_root h hG hn0 hks s hs hk hr
  · exact rDelete_other h hG hn0 hks s hs hk hr
set_option maxRecDepth 100000 in
set_option maxHeartbeats 1600000 in
theorem rAll_any {w : World} {B yb : Nat} {who : Own} {nd : Bs → Option Nat} {S : Bs → Option ND} {l : List Bs} (h : RTr w B yb who nd S l) (hll : l.length ≤ 50000) (hlen : ∀ k ∈ l, k.length ≤ 100000) {ks : List Bs} (hks : KeysOf S ks) :
    Calls Tryz.prog 46 #[.pointer (some ⟨yb, 0, none⟩)] w fun e w' => ∃ vo, e = .returned vo ∧ TxtRow w' vo ks ∧ Below w.heap.size w w' := by
  have SO : Hid (∀ W v, TxtRow W v l → Calls Tryz.prog 60 #[v] W fun e w' => ∃ vo, e = .returned vo ∧ TxtRow w' vo ks ∧ Below W.heap.size W w') := fun W v hv => by
    have := rSorted_any hv (by omega) (fun x hx => by have := hlen x hx; omega)
    rw [keys_srt hks h.nodup h.mem] at this
    exact this
  obtain ⟨lo, lc, hcl, hrow, htag⟩ := h.lvOf
  have HH := Lib.hid (And.intro h (And.intro hrow hcl))
  obtain ⟨n, hn⟩ : ∃ n, l.length = n := ⟨_, rfl⟩
  have HN := Lib.hid hn
  have d0 := (vcells1 hcl).1
  rw [hn] at d0 hll
  have hkl : n ≤ lc ∨ n = 0 := by
    rcases hrow.2 with ⟨_, h0⟩ | ⟨g, cap, cur, e, _, _, h1, _⟩
    · exact .inr (by omega)
    · cases e; exact .inl (by omega)
  clear h hks hlen hcl hrow htag hn
  go_enter Tryz.func46, Tryz.ntmps46
  go_wp2_with fail
  go_loopw [13, 3] (fun qv gv wr => ∃ (i : Nat) (go : Option Addr) (gc : Nat), i ≤ n ∧ qv = .int .i64 (i : Int) ∧ gv = .slice go i gc ∧ wr.ownsRow w.heap.size 9 1 (.slice go i gc) i ((l.take i).map sv) ∧ Below w.heap.size w wr) (fun q _ _ => n - (intOf q).toNat)
  case atStart => exact ⟨0, none, 0, Nat.zero_le _, rfl, rfl, ⟨rfl, .inl ⟨rfl, rfl⟩⟩, Below.refl _ _⟩
  case round =>
    obtain ⟨i, go, gc, hi, rfl, rfl, hg, hB⟩ := hrel
    have HJ := Lib.hid (And.intro hg hB)
    by_cases hlt : i < n
    · have hil : i < l.length := by have := HN.out; omega
      obtain ⟨g, b, rfl, hgl, hbl, hnd, c0, c1⟩ := HH.out.1.at_ HH.out.2.1 hil
      have d1 := (hB.cell (p := ⟨g, i, none⟩) hgl).trans c0
      have d2 := (hB.cell (p := ⟨b, 0, none⟩) hbl).trans c1
      have hx : l.take (i + 1) = l.take i ++ [l[i]] := List.take_succ_eq_append_getElem hil
      generalize l[i] = k at *
      have i1 : i < n := hlt
      have i2 : decide ((i : Int) < (n : Int)) = true := by rw [decide_eq_true_eq]; omega
      have hw1 : IntKind.i64.wrap ((i : Int) + 1) = (i : Int) + 1 := IntWalk.i64_in _ (by omega)
      have HI := Lib.hid (And.intro hlt hx)
      clear hi hlt hg hB hil hgl hbl c0 c1 hx hnd
      go_wp2_with (at_builtin; go_loud (refine wpList_push1 rfl (.tmp 17) (.tmp 22) 27 rfl w.heap.size 9 (.string ⟨#[]⟩) 16 Tryz.underlying27 infoStr rfl (.slice go i gc) i _ rfl HJ.out.1 (.string ⟨k.toArray⟩) _ rfl rfl rfl (by unfold maxLen; omega) (by omega) (by exact HJ.out.2.size) ?_); intro g4 c4 w4 hg4 hown4 hk4 hloc; have H4 := Lib.hid (And.intro hown4 (HJ.out.2.trans (hk4.below HJ.out.2.size (fun d hd => (row_ids HJ.out.1 d (by simpa using hd)).1)))); clear hg4 hown4 hk4 hloc)
      refine ⟨⟨i + 1, _, c4, by have := HI.out.1; omega, by go_num, rfl, ?_, H4.out.2⟩, by have := HI.out.1; simp [intOf]; omega⟩
      rw [HI.out.2]
      simpa [sv] using H4.out.1
    · obtain rfl : i = n := by omega
      have i2 : decide ((i : Int) < (i : Int)) = false := by rw [decide_eq_false_iff_not]; omega
      rw [show l.take i = l from by rw [← HN.out, List.take_length]] at hg
      have SK := Lib.hid (SO.out wr (.slice go i gc) (TxtRow.of_owns (base := w.heap.size) (by rw [HN.out]; exact hg)))
      have HB := Lib.hid hB
      clear hi hlt hg hB
      go_wp2_with (go_at_call 60; refine SK.out.mono ?_; rintro e w6 ⟨vo, rfl, hr, hb6⟩; have H6 := Lib.hid (And.intro hr hb6); clear hr hb6)
      go_ret
      exact ⟨vo, rfl, H6.out.1, HB.out.trans (H6.out.2.mono HB.out.size)⟩
end Go.Proofs.YtjgdfgpnmmkjfaaGreatDoor
namespace Go.Proofs.YtjgdfgpnmmkjfaaGreatDoor
set_option linter.unusedVariables false
set_option linter.unusedSimpArgs false
open Go.RowKit Go.MapKept
/-- Both trees: the program's is S, the reference's is R. -/
structure Tn (w : World) (B tb m yb : Nat) (who whoY : Own) (S R : Bs → Option ND) : Prop where
  tr : ∃ nd, Tr w B tb m who nd S
  rt : ∃ nd l, RTr w B yb whoY nd R l
  dis : ∀ j, who j ≠ none → whoY j = none
section
variable {w w1 w' : World} {B tb m yb : Nat} {who who' whoY whoY' : Own} {S S' R R' : Bs → Option ND}
theorem Tn.low (h : Tn w B tb m yb who whoY S R) (hb : Below w.heap.size w w') : Tn w' B tb m yb who whoY S R := by
  obtain ⟨nd, h1⟩ := h.tr
  obtain ⟨nd', l, h2⟩ := h.rt
  exact ⟨⟨nd, h1.low hb⟩, ⟨nd', l, h2.low hb⟩, h.dis⟩
theorem Tn.base (h : Tn w B tb m yb who whoY S R) : B ≤ w.heap.size := by obtain ⟨nd, h1⟩ := h.tr; exact h1.base
theorem Tn.lo (h : Tn w B tb m yb who whoY S R) : ∀ j, who j ≠ none → B ≤ j ∧ j < w.heap.size := by obtain ⟨nd, h1⟩ := h.tr; exact h1.lo
theorem Tn.loY (h : Tn w B tb m yb who whoY S R) : ∀ j, whoY j ≠ none → B ≤ j ∧ j < w.heap.size := by obtain ⟨nd, l, h1⟩ := h.rt; exact h1.lo
theorem none_of_lo {who : Own} {B n j : Nat} (h : ∀ j, who j ≠ none → B ≤ j ∧ j < n) (hj : n ≤ j ∨ j < B) : who j = none := by
  cases hc : who j with
  | none => rfl
  | some p => have := h j (by rw [hc]; simp); omega
/-- A step of the program's tree. -/
theorem Tn.tab {nd' : Bs → Option Nat} (h : Tn w B tb m yb who whoY S R) (hT : Tr w' B tb m who' nd' S') (hs : Stp who who' w w') : Tn w' B tb m yb who' whoY S' R := by
  obtain ⟨nd2, l, h2⟩ := h.rt
  refine ⟨⟨nd', hT⟩, ⟨nd2, l, h2.other hs (fun j hj => ?_)⟩, fun j hj => ?_⟩
  · cases hc : who j with
    | none => rfl
    | some t => exact absurd (h.dis j (by rw [hc]; simp)) hj
  · by_cases hl : j < w.heap.size
    · exact h.dis j (by rw [← hs.ext j hl]; exact hj)
    · exact h2.none_at (by omega)
/-- A step of the reference's tree. -/
theorem Tn.ref {nd' : Bs → Option Nat} {l' : List Bs} (h : Tn w B tb m yb who whoY S R) (hT : RTr w' B yb whoY' nd' R' l') (hs : Stp whoY whoY' w w') : Tn w' B tb m yb who whoY' S R' := by
  obtain ⟨nd, h1⟩ := h.tr
  refine ⟨⟨nd, h1.other hs h.dis⟩, ⟨nd', l', hT⟩, fun j hj => ?_⟩
  have hl := (h.lo j hj).2
  rw [hs.ext j hl]
  exact h.dis j hj
/-- The program's act is done. -/
structure HalfN (w : World) (B tb m yb : Nat) (who whoY : Own) (S S' : Bs → Option ND) (w' : World) : Prop where
  ex : ∃ who', Tn w' B tb m yb who' whoY S' S ∧ Stp who who' w w'
/-- Both acts are done. -/
structure WholeN (w : World) (B tb m yb : Nat) (whoY : Own) (S S' : Bs → Option ND) (w' : World) : Prop where
  ex : ∃ who' whoY', Tn w' B tb m yb who' whoY' S' S' ∧ Stp whoY whoY' w w'
theorem stp_below (h : Stp who who' w w') (hlo : ∀ j, who j ≠ none → B ≤ j ∧ j < w.heap.size) (hB : B ≤ w.heap.size) : Below B w w' := h.below hB (fun j hj => (hlo j hj).1)
/-- An act that both trees bear. -/
structure FitN (S : Bs → Option ND) (n : Nat) : Prop where
  gd : Gd S n
  n : n ≤ 50000
theorem FitN.len {n : Nat} (h : FitN S n) {nd : Bs → Option Nat} {l : List Bs} (hr : RTr w B yb whoY nd S l) : l.length ≤ 50000 := Nat.le_trans (h.gd.cnt l hr.nodup (fun k hk => (hr.mem k).1 hk)) h.n
theorem FitN.key {n : Nat} (h : FitN S n) : ∀ k, (S k).isSome = true → k.length ≤ 100000 := fun k hk => by obtain ⟨l, _, h2, _⟩ := h.gd.key k hk; omega
theorem tMake (s : Bs) (hs : s.length ≤ 1500) (h : Tn w B tb m yb who whoY S S) {n : Nat} (hF : FitN S n) : Calls Tryz.prog 14 #[.pointer (some ⟨tb, 0, none⟩), .string ⟨s.toArray⟩] w fun e w' => e = .returned (.int .i64 0) ∧ HalfN w B tb m yb who whoY S (makeS S s) w' := by
  obtain ⟨nd, h1⟩ := h.tr
  refine (Make_any h1 s (by omega)).mono ?_
  rintro e w' ⟨he, who', nd', hT, hS⟩
  exact ⟨he, ⟨who', h.tab hT hS, hS⟩⟩
theorem uMake (s : Bs) (hs : s.length ≤ 1500) (h : Tn w B tb m yb who whoY (makeS S s) S) {n : Nat} (hF : FitN S n) : Calls Tryz.prog 24 #[.pointer (some ⟨yb, 0, none⟩), .string ⟨s.toArray⟩] w fun e w' => e = .returned (.int .i64 0) ∧ WholeN w B tb m yb whoY S (makeS S s) w' := by
  obtain ⟨nd, l, h2⟩ := h.rt
  refine (rMake_any h2 (by have := hF.len h2; omega) s (by omega)).mono ?_
  rintro e w' ⟨he, whoY', nd', l', hT, hS⟩
  exact ⟨he, ⟨who, whoY', h.ref hT hS, hS⟩⟩
theorem tSetSearch (s : Bs) (hs : s.length ≤ 1500) (L : List Bs) (hL : ∀ p ∈ L, p.length ≤ 1500) (hn : L.length ≤ 1500) (v : Value) (hv : TxtRow w v L) (h : Tn w B tb m yb who whoY S S) {n : Nat} (hF : FitN S n) : Calls Tryz.prog 23 #[.pointer (some ⟨tb, 0, none⟩), .string ⟨s.toArray⟩, v] w fun e w' => e = .returned (.int .i64 (srchS S s L).1) ∧ HalfN w B tb m yb who whoY S ((srchS S s L).2) w' := by
  obtain ⟨nd, h1⟩ := h.tr
  refine (SetSearch_any h1 s (by omega) L (fun p hp => by have := hL p hp; omega) (by omega) hv).mono ?_
  rintro e w' ⟨he, who', nd', hT, hS⟩
  exact ⟨he, ⟨who', h.tab hT hS, hS⟩⟩
theorem uSetSearch (s : Bs) (hs : s.length ≤ 1500) (L : List Bs) (hL : ∀ p ∈ L, p.length ≤ 1500) (hn : L.length ≤ 1500) (v : Value) (hv : TxtRow w v L) (h : Tn w B tb m yb who whoY ((srchS S s L).2) S) {n : Nat} (hF : FitN S n) : Calls Tryz.prog 26 #[.pointer (some ⟨yb, 0, none⟩), .string ⟨s.toArray⟩, v] w fun e w' => e = .returned (.int .i64 (srchS S s L).1) ∧ WholeN w B tb m yb whoY S ((srchS S s L).2) w' := by
  obtain ⟨nd, l, h2⟩ := h.rt
  refine (rSetSearch_any h2 (by have := hF.len h2; omega) s (by omega) L (fun p hp => by have := hL p hp; omega) (by omega) hv).mono ?_
  rintro e w' ⟨he, whoY', nd', l', hT, hS⟩
  exact ⟨he, ⟨who, whoY', h.ref hT hS, hS⟩⟩
theorem tExport (s : Bs) (hs : s.length ≤ 1500) (L : List Bs) (hn : L.length ≤ 1500) (c : Bool) (v : Value) (hv : TxtRow w v L) (hvb : ∀ o n c, v = .slice (some o) n c → 0 < n → o.block < B) (h : Tn w B tb m yb who whoY S S) {n : Nat} (hF : FitN S n) : Calls Tryz.prog 27 #[.pointer (some ⟨tb, 0, none⟩), .string ⟨s.toArray⟩, v, .bool c] w fun e w' => e = .returned (.int .i64 (expS S s L c).1) ∧ HalfN w B tb m yb who whoY S ((expS S s L c).2) w' := by
  obtain ⟨nd, h1⟩ := h.tr
  refine (Export_any h1 s (by omega) L c (by omega) (fun n hn => by have := hF.gd.exp _ n hn; have := hF.n; omega) hv (fun o n c e hn => none_of_lo h.lo (.inr (hvb o n c e hn)))).mono ?_
  rintro e w' ⟨he, who', nd', hT, hS⟩
  exact ⟨he, ⟨who', h.tab hT hS, hS⟩⟩
theorem uExport (s : Bs) (hs : s.length ≤ 1500) (L : List Bs) (hn : L.length ≤ 1500) (c : Bool) (v : Value) (hv : TxtRow w v L) (hvb : ∀ o n c, v = .slice (some o) n c → 0 < n → o.block < B) (h : Tn w B tb m yb who whoY ((expS S s L c).2) S) {n : Nat} (hF : FitN S n) : Calls Tryz.prog 28 #[.pointer (some ⟨yb, 0, none⟩), .string ⟨s.toArray⟩, v, .bool c] w fun e w' => e = .returned (.int .i64 (expS S s L c).1) ∧ WholeN w B tb m yb whoY S ((expS S s L c).2) w' := by
  obtain ⟨nd, l, h2⟩ := h.rt
  refine (rExport_any h2 (by have := hF.len h2; omega) s (by omega) L c (by omega) (fun n hn => by have := hF.gd.exp _ n hn; have := hF.n; omega) hv (fun o n c e hn => none_of_lo h.loY (.inr (hvb o n c e hn)))).mono ?_
  rintro e w' ⟨he, whoY', nd', l', hT, hS⟩
  exact ⟨he, ⟨who, whoY', h.ref hT hS, hS⟩⟩
theorem tSetUnknown (s t : Bs) (hs : s.length ≤ 1500) (h : Tn w B tb m yb who whoY S S) {n : Nat} (hF : FitN S n) : Calls Tryz.prog 29 #[.pointer (some ⟨tb, 0, none⟩), .string ⟨s.toArray⟩, .string ⟨t.toArray⟩] w fun e w' => e = .returned (.int .i64 (unkS S s t).1) ∧ HalfN w B tb m yb who whoY S ((unkS S s t).2) w' := by
  obtain ⟨nd, h1⟩ := h.tr
  refine (SetUnknown_any h1 s t (by omega)).mono ?_
  rintro e w' ⟨he, who', nd', hT, hS⟩
  exact ⟨he, ⟨who', h.tab hT hS, hS⟩⟩
theorem uSetUnknown (s t : Bs) (hs : s.length ≤ 1500) (h : Tn w B tb m yb who whoY ((unkS S s t).2) S) {n : Nat} (hF : FitN S n) : Calls Tryz.prog 30 #[.pointer (some ⟨yb, 0, none⟩), .string ⟨s.toArray⟩, .string ⟨t.toArray⟩] w fun e w' => e = .returned (.int .i64 (unkS S s t).1) ∧ WholeN w B tb m yb whoY S ((unkS S s t).2) w' := by
  obtain ⟨nd, l, h2⟩ := h.rt
  refine (rSetUnknown_any h2 (by have := hF.len h2; omega) s t (by omega)).mono ?_
  rintro e w' ⟨he, whoY', nd', l', hT, hS⟩
  exact ⟨he, ⟨who, whoY', h.ref hT hS, hS⟩⟩
/-- What 'Delete' does. -/
def DelN (S : Bs → Option ND) (s : Bs) (ks : List Bs) (r : Int) (gl : List Bs) (S' : Bs → Option ND) : Prop :=
  (S (canonN rootN s) = none ∧ r = 8 ∧ gl = [] ∧ S' = S) ∨ ((S (canonN rootN s)).isSome = true ∧ r = 0 ∧ gl = srt (goneL (canonN rootN s) ks) ∧ S' = delS S (canonN rootN s) ks)
theorem tDelete (h : Tn w B tb m yb who whoY S S) {n : Nat} (hF : FitN S n) {ks : List Bs} (hks : KeysOf S ks) (s : Bs) (hs : s.length ≤ 1500) : Calls Tryz.prog 15 #[.pointer (some ⟨tb, 0, none⟩), .string ⟨s.toArray⟩] w fun e w' => ∃ u r gl S', e = .returned (.tuple #[u, .int .i64 r]) ∧ DelN S s ks r gl S' ∧ TxtRow w' u gl ∧ (∀ o n c, u = .slice (some o) n c → whoY o.block = none) ∧ HalfN w B tb m yb who whoY S S' w' := by
  obtain ⟨nd, h1⟩ := h.tr
  refine (Delete_any h1 (cnt_mono hF.gd.cnt (by have := hF.n; omega)) hF.key hks s (by omega)).mono ?_
  intro e w' hD
  unfold DelR at hD
  cases hk : S (canonN rootN s) with
  | none =>
    rw [hk] at hD
    obtain ⟨he, hT, hS⟩ := hD
    exact ⟨_, 8, [], S, he, .inl ⟨hk, rfl, rfl, rfl⟩, TxtRow.nil _, fun o n c e => by simp at e, ⟨who, h.tab hT hS, hS⟩⟩
  | some x =>
    rw [hk] at hD
    obtain ⟨o, c, who', nd', he, ho, hT, hS, hw⟩ := hD
    refine ⟨_, 0, _, _, he, .inr ⟨by rw [hk]; rfl, rfl, rfl, rfl⟩, TxtRow.of_owns (base := w.heap.size) (by rw [srt_len]; exact ho), fun o' n' c' e => ?_, ⟨who', h.tab hT hS, hS⟩⟩
    injection e with e1 e2 e3
    subst e1
    exact none_of_lo h.loY (.inl ((row_ids ho o'.block (by
      rcases ho.2 with ⟨h0, _⟩ | ⟨g, cap, cur, e, _⟩
      · cases h0
      · injection e with e4; injection e4 with e5; subst e5; rfl)).1))
theorem uDelete (h : Tn w B tb m yb who whoY S' S) {n : Nat} (hF : FitN S n) {ks : List Bs} (hks : KeysOf S ks) (s : Bs) (hs : s.length ≤ 1500) {r : Int} {gl : List Bs} (hD : DelN S s ks r gl S') {u : Value} (hu : TxtRow w u gl) (hub : ∀ o n c, u = .slice (some o) n c → whoY o.block = none) : Calls Tryz.prog 25 #[.pointer (some ⟨yb, 0, none⟩), .string ⟨s.toArray⟩] w fun e w' => ∃ vo, e = .returned (.tuple #[vo, .int .i64 r]) ∧ WholeN w B tb m yb whoY S S' w' ∧ TxtRow w' u gl ∧ TxtRow w' vo gl := by
  obtain ⟨nd, l, h2⟩ := h.rt
  have hfr : ∀ w', (Stp whoY whoY w w' ∨ ∃ whoY', Stp whoY whoY' w w') → TxtRow w' u gl := fun w' hs => by
    obtain ⟨o, c, rfl⟩ := hu.len
    have hf : Fr whoY w w' := by
      rcases hs with hs | ⟨_, hs⟩
      · exact hs.fr
      · exact hs.fr
    exact TxtRow.fr hu (fun a ha => hub a _ c (by rw [ha])) hf
  rcases hD with ⟨hk, rfl, rfl, rfl⟩ | ⟨hk, rfl, rfl, rfl⟩
  · refine (rDelete_none h2 (by have := hF.len h2; omega) s (by omega) hk).mono ?_
    rintro e w' ⟨he, hb⟩
    exact ⟨_, he, ⟨who, whoY, h.low hb, Stp.of_below hb⟩, hu.below hb, TxtRow.nil _⟩
  · refine (rDelete_any h2 hF.gd hF.n hks s (by omega) hk).mono ?_
    rintro e w' ⟨vo, whoY', nd', l', he, hT, hS, hr⟩
    exact ⟨vo, he, ⟨who, whoY', h.ref hT hS, hS⟩, hfr w' (.inr ⟨_, hS⟩), hr⟩
end
end Go.Proofs.YtjgdfgpnmmkjfaaGreatDoor

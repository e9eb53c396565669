/- 'below' and 'slices.Collect' of it; a path taken out of a tree; the paths of a tree are finite. -/
import Derived.Test.YtjgdfgpnmmkjfaaGreatDoorNCol
namespace Go.Proofs.YtjgdfgpnmmkjfaaGreatDoor
set_option linter.unusedVariables false
set_option linter.unusedSimpArgs false
open Go.RowKit Go.Shelf Go.MapKept

def headB (path : Bs) : Bs := if path = rootN then rootN else path ++ rootN
theorem three_new (w : World) (a b c : Value) (ta tb tc : TypeId) :
    Boxed (((w.alloc (.cells #[a] ta)).alloc (.cells #[b] tb)).alloc (.cells #[c] tc)) w.heap.size ta a ∧ Boxed (((w.alloc (.cells #[a] ta)).alloc (.cells #[b] tb)).alloc (.cells #[c] tc)) (w.heap.size + 1) tb b ∧
    Boxed (((w.alloc (.cells #[a] ta)).alloc (.cells #[b] tb)).alloc (.cells #[c] tc)) (w.heap.size + 1 + 1) tc c ∧ Below w.heap.size w (((w.alloc (.cells #[a] ta)).alloc (.cells #[b] tb)).alloc (.cells #[c] tc)) := by
  have h1 := Boxed.new w ta a
  have h2 := Boxed.new (w.alloc (.cells #[a] ta)) tb b
  have h3 := Boxed.new ((w.alloc (.cells #[a] ta)).alloc (.cells #[b] tb)) tc c
  rw [World.size_alloc] at h2
  rw [World.size_alloc, World.size_alloc] at h3
  exact ⟨(h1.alloc _).alloc _, h2.alloc _, h3, (((Below.refl _ w).alloc (Nat.le_refl _) _).alloc (by simp) _).alloc (by simp; omega) _⟩
theorem bel_any (tb : Nat) (path : Bs) (hp : path.length ≤ 1000000) (w : World) :
    Calls Tryz.prog 37 #[.pointer (some ⟨tb, 0, none⟩), .string ⟨path.toArray⟩] w fun e w' => ∃ b1 b2 b3, e = .returned (.func (.func 68) #[] #[.pointer (some ⟨b1, 0, none⟩), .pointer (some ⟨b2, 0, none⟩), .pointer (some ⟨b3, 0, none⟩)]) ∧
      Boxed w' b1 25 (.pointer (some ⟨tb, 0, none⟩)) ∧ Boxed w' b2 9 (.string ⟨path.toArray⟩) ∧ Boxed w' b3 9 (.string ⟨(headB path).toArray⟩) ∧ Below w.heap.size w w' := by
  by_cases hr : path = rootN
  · subst hr
    go_enter Tryz.func37, Tryz.ntmps37
    go_wp2
    go_ret
    have h := three_new w (.pointer (some ⟨tb, 0, none⟩)) (.string ⟨rootN.toArray⟩) (.string ⟨#[58, 58]⟩) 25 9 9
    exact ⟨_, _, _, rfl, h.1, h.2.1, by rw [show headB rootN = rootN from rfl]; exact h.2.2.1, h.2.2.2⟩
  · have e1 : (path == rootN) = false := beq_eq_false_iff_ne.2 hr
    have e2 : (⟨path.toArray⟩ : ByteArray) ≠ ⟨#[58, 58]⟩ := fun e => hr (by simpa [rootN] using congrArg (fun b : ByteArray => b.data.toList) e)
    have e3 : (path == [58, 58]) = false := e1
    go_enter Tryz.func37, Tryz.ntmps37
    go_wp2
    go_ret
    have h := three_new w (.pointer (some ⟨tb, 0, none⟩)) (.string ⟨path.toArray⟩) (.string ⟨(path ++ rootN).toArray⟩) 25 9 9
    have e4 : ((⟨path.toArray⟩ : ByteArray) ++ ⟨#[58, 58]⟩) = ⟨(path ++ rootN).toArray⟩ := ba_append path [58, 58]
    rw [← e4] at h
    exact ⟨_, _, _, rfl, h.1, h.2.1, by rw [show headB path = path ++ rootN from if_neg hr, ← e4]; exact h.2.2.1, h.2.2.2⟩
/-- All that lies below a path, gathered. -/
theorem collect_any {w W : World} {B tb m : Nat} {who : Own} {nd : Bs → Option Nat} {S : Bs → Option ND} (hT : Tr w B tb m who nd S) (hcn : Cnt S 1000000) {ks : List Bs} (hks : KeysOf S ks) (path head : Bs) (hB : Below w.heap.size w W) {b1 b2 b3 : Nat}
    (h1 : Boxed W b1 25 (.pointer (some ⟨tb, 0, none⟩))) (h2 : Boxed W b2 9 (.string ⟨path.toArray⟩)) (h3 : Boxed W b3 9 (.string ⟨head.toArray⟩)) :
    Calls Tryz.prog 36 #[.func (.func 68) #[] #[.pointer (some ⟨b1, 0, none⟩), .pointer (some ⟨b2, 0, none⟩), .pointer (some ⟨b3, 0, none⟩)]] W fun e w' => ∃ o c, e = .returned (.slice o (belowL path head ks).length c) ∧ w'.ownsRow W.heap.size 9 1 (.slice o (belowL path head ks).length c) (belowL path head ks).length ((belowL path head ks).map sv) ∧ Below W.heap.size W w' := by
  have l1 := h1.lt
  have l2 := h2.lt
  have l3 := h3.lt
  have hkl : ks.length ≤ 1000000 := hcn ks hks.nodup (fun k hk => (hks.mem k).1 hk)
  have hst := below_stops b1 b2 b3 W.heap.size path head hT hcn ks hks (W.alloc (.cells #[.slice none 0 0] 27)) (hB.alloc hB.size _) (h1.alloc _) (h2.alloc _) (h3.alloc _) (by simp) ⟨by omega, by omega, by omega⟩ (ownAt_boxed (Boxed.new W 27 (.slice none 0 0)))
  have HA := Lib.hid (appendSeq_any b1 b2 b3 (belowL path head ks) ks.length hkl _ hst)
  generalize belowL path head ks = L at *
  clear hT hcn hks hB h1 h2 h3 hst
  go_enter Tryz.func36, Tryz.ntmps36
  go_wp2_with (go_at_call 67; refine HA.out.mono ?_; rintro e w1 ⟨o, c, rfl, hr, hb⟩; have H1 := Lib.hid (And.intro hr hb); clear hr hb)
  go_ret
  exact ⟨o, c, rfl, H1.out.1, H1.out.2⟩
theorem keys_ext {S : Bs → Option ND} {n : Nat} (h : Cnt S n) : ∀ (m : Nat) (l : List Bs), l.Nodup → (∀ k ∈ l, (S k).isSome = true) → n - l.length ≤ m → ∃ ks : List Bs, ks.Nodup ∧ ∀ k, k ∈ ks ↔ (S k).isSome = true
  | 0, l, hn, hm, hl => by
    refine ⟨l, hn, fun k => ⟨hm k, fun hk => ?_⟩⟩
    by_cases hkl : k ∈ l
    · exact hkl
    · have := h (k :: l) (List.nodup_cons.2 ⟨hkl, hn⟩) (fun q hq => by rcases List.mem_cons.1 hq with rfl | hq; exact hk; exact hm q hq)
      simp at this; omega
  | m + 1, l, hn, hm, hl => by
    by_cases hall : ∀ k, (S k).isSome = true → k ∈ l
    · exact ⟨l, hn, fun k => ⟨hm k, hall k⟩⟩
    · obtain ⟨k, hk⟩ := Classical.not_forall.1 hall
      obtain ⟨hk1, hk2⟩ := Classical.not_imp.1 hk
      have hnd := List.nodup_cons.2 ⟨hk2, hn⟩
      have hmm : ∀ q ∈ k :: l, (S q).isSome = true := fun q hq => by rcases List.mem_cons.1 hq with rfl | hq; exact hk1; exact hm q hq
      have := h (k :: l) hnd hmm
      exact keys_ext h m (k :: l) hnd hmm (by simp at this ⊢; omega)
theorem keys_of {S : Bs → Option ND} {n : Nat} (h : Cnt S n) : ∃ ks, KeysOf S ks := by
  obtain ⟨l, h1, h2⟩ := keys_ext h n [] List.nodup_nil (by simp) (by simp)
  exact ⟨srt l, (srt_perm l).nodup_iff.2 h1, fun k => by rw [(srt_perm l).mem_iff]; exact h2 k, srt_idem l⟩
def delN (nd : Bs → Option Nat) (k : Bs) : Bs → Option Nat := fun k' => if k' = k then none else nd k'
def delS1 (S : Bs → Option ND) (k : Bs) : Bs → Option ND := fun k' => if k' = k then none else S k'
/-- A path taken out of a tree. -/
theorem Tr.del {w : World} {B tb m : Nat} {who : Own} {nd : Bs → Option Nat} {S : Bs → Option ND} (h : Tr w B tb m who nd S) (k : Bs) (hk : k.length ≤ maxLen) :
    ∃ w', (∀ ty, (Builtin.delete_ #[50, 9] ty #[.map (some m), .string ⟨k.toArray⟩]).run Tryz.prog w = .ok (.tuple #[]) w') ∧ Tr w' B tb m who (delN nd k) (delS1 S k) ∧ Stp who who w w' := by
  have hx := fun ty => h.tree.map.delete (ty := ty) Skeyed Tryz.underlying50 sv_inj (k := k) (skey hk)
  obtain ⟨w3, hup, ho, hma⟩ := hx 0
  have htm : tb ≠ m := by
    rintro rfl
    have := h.wtb
    rw [h.wm] at this; simp at this
  have hm1 : ∀ j t, who j = some t → t.1 ≠ 1 → j ≠ m := fun j t hj h1 => by rintro rfl; rw [h.wm] at hj; cases hj; exact h1 rfl
  refine ⟨w3, fun ty => ?_, ⟨⟨(ho.block tb htm).trans h.tree.cel, ?_, fun q b hq => ?_⟩, h.wm, h.wtb, fun q => ?_, fun q b n hq hS => ?_, fun j hj => by rw [ho.size]; exact h.lo j hj⟩, ⟨⟨ho.os, ho.tape, ho.output, Nat.le_of_eq ho.size.symm, fun j hj hn => ho.block j (by rintro rfl; rw [h.wm] at hn; cases hn)⟩, fun _ _ => rfl⟩⟩
  · have : (Builtin.delete_ #[50, 9] ty #[.map (some m), sv k]).run Tryz.prog w = (Builtin.delete_ #[50, 9] 0 #[.map (some m), sv k]).run Tryz.prog w := rfl
    exact this.trans hup
  · have e : (fun k' : Bs => (delN nd k k').map fun b => Value.pointer (some ⟨b, 0, none⟩)) = fun k' => if k' = k then none else (nd k').map fun b => Value.pointer (some ⟨b, 0, none⟩) := by
      funext k'
      unfold delN
      by_cases h : k' = k
      · rw [if_pos h, if_pos h]; rfl
      · rw [if_neg h, if_neg h]
    rw [e]
    exact hma
  · unfold delN at hq
    by_cases hqk : q = k
    · rw [if_pos hqk] at hq; cases hq
    · rw [if_neg hqk] at hq
      obtain ⟨n, _, hN⟩ := h.has hq
      obtain ⟨a, c, d, hb⟩ := h.tree.node q b hq
      exact ⟨a, c, d, (ho.block b (hm1 b _ hN.1 (by simp))).trans hb⟩
  · unfold delN delS1
    by_cases hqk : q = k
    · rw [if_pos hqk, if_pos hqk]; rfl
    · rw [if_neg hqk, if_neg hqk]; exact h.same q
  · unfold delN at hq
    unfold delS1 at hS
    by_cases hqk : q = k
    · rw [if_pos hqk] at hq; cases hq
    · rw [if_neg hqk] at hq hS
      have hN := h.node q b n hq hS
      exact hN.keep (ho.block b (hm1 b _ hN.1 (by simp))) (fun j hj => ho.block j (hm1 j _ hj (by simp))) (fun j hj => ho.block j (hm1 j _ hj (by simp))) (fun _ _ h => h)
end Go.Proofs.YtjgdfgpnmmkjfaaGreatDoor

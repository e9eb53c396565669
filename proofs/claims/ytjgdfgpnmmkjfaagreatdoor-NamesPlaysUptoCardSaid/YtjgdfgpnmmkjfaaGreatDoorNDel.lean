/- 'below' and 'slices.Collect' of it; a path taken out of a tree; the paths of a tree are finite. 'Delete' of a tree of namespaces. -/
import Derived.Test.YtjgdfgpnmmkjfaaGreatDoorNCol
import Derived.Test.YtjgdfgpnmmkjfaaGreatDoorNExp
import Derived.Test.YtjgdfgpnmmkjfaaGreatDoorNCand
namespace Go.Proofs.YtjgdfgpnmmkjfaaGreatDoor
set_option linter.unusedVariables false
set_option linter.unusedSimpArgs false
open Go.RowKit Go.Shelf Go.MapKept

def headB (path : Bs) : Bs := if path = rootN then rootN else path ++ rootN
theorem three_new (w : World) (a b c : Value) (ta tb tc : TypeId) :
    Boxed (((w.alloc (.cells #[a] ta)).alloc (.cells #[b] tb)).alloc (.cells #[c] tc)) w.heap.size ta a ∧ Boxed (((w.alloc (.cells #[a] ta)).alloc (.cells #[b] tb)).alloc (.cells #[c] tc)) (w.heap.size + 1) tb b ∧
    Boxed (((w.alloc (.cells #[a] ta)).alloc (.cells #[b] tb)).alloc (.cells #[c] tc)) (w.heap.size + 1 + 1) tc c ∧ Below w.heap.size w (((w.alloc (.cells #[a] ta)).alloc (.cells #[b] tb)).alloc (.cells #[c] tc)) := by
  have h1 := Boxed.new w ta a
  have h2 := Boxed.new (w.alloc (.cells #[a] ta)) tb b
  have h3 := Boxed.new ((w.alloc (.cells #[a] ta)).alloc (.cells #[b] tb)) tc c
  rw [World.size_alloc] at h2
  rw [World.size_alloc, World.size_alloc] at h3
  exact ⟨(h1.alloc _).alloc _, h2.alloc _, h3, (((Below.refl _ w).alloc (Nat.le_refl _) _).alloc (by simp) _).alloc (by simp; omega) _⟩
theorem bel_any (tb : Nat) (path : Bs) (hp : path.length ≤ 1000000) (w : World) :
    Calls Tryz.prog 37 #[.pointer (some ⟨tb, 0, none⟩), .string ⟨path.toArray⟩] w fun e w' => ∃ b1 b2 b3, e = .returned (.func (.func 68) #[] #[.pointer (some ⟨b1, 0, none⟩), .pointer (some ⟨b2, 0, none⟩), .pointer (some ⟨b3, 0, none⟩)]) ∧
      Boxed w' b1 25 (.pointer (some ⟨tb, 0, none⟩)) ∧ Boxed w' b2 9 (.string ⟨path.toArray⟩) ∧ Boxed w' b3 9 (.string ⟨(headB path).toArray⟩) ∧ Below w.heap.size w w' := by
  by_cases hr : path = rootN
  · subst hr
    go_enter Tryz.func37, Tryz.ntmps37
    go_wp2
    go_ret
    have h := three_new w (.pointer (some ⟨tb, 0, none⟩)) (.string ⟨rootN.toArray⟩) (.string ⟨#[58, 58]⟩) 25 9 9
    exact ⟨_, _, _, rfl, h.1, h.2.1, by rw [show headB rootN = rootN from rfl]; exact h.2.2.1, h.2.2.2⟩
  · have e1 : (path == rootN) = false := beq_eq_false_iff_ne.2 hr
    have e2 : (⟨path.toArray⟩ : ByteArray) ≠ ⟨#[58, 58]⟩ := fun e => hr (by simpa [rootN] using congrArg (fun b : ByteArray => b.data.toList) e)
    have e3 : (path == [58, 58]) = false := e1
    go_enter Tryz.func37, Tryz.ntmps37
    go_wp2
    go_ret
    have h := three_new w (.pointer (some ⟨tb, 0, none⟩)) (.string ⟨path.toArray⟩) (.string ⟨(path ++ rootN).toArray⟩) 25 9 9
    have e4 : ((⟨path.toArray⟩ : ByteArray) ++ ⟨#[58, 58]⟩) = ⟨(path ++ rootN).toArray⟩ := ba_append path [58, 58]
    rw [← e4] at h
    exact ⟨_, _, _, rfl, h.1, h.2.1, by rw [show headB path = path ++ rootN from if_neg hr, ← e4]; exact h.2.2.1, h.2.2.2⟩
/-- All that lies below a path, gathered. -/
theorem collect_any {w W : World} {B tb m : Nat} {who : Own} {nd : Bs → Option Nat} {S : Bs → Option ND} (hT : Tr w B tb m who nd S) (hcn : Cnt S 1000000) {ks : List Bs} (hks : KeysOf S ks) (path head : Bs) (hB : Below w.heap.size w W) {b1 b2 b3 : Nat}
    (h1 : Boxed W b1 25 (.pointer (some ⟨tb, 0, none⟩))) (h2 : Boxed W b2 9 (.string ⟨path.toArray⟩)) (h3 : Boxed W b3 9 (.string ⟨head.toArray⟩)) :
    Calls Tryz.prog 36 #[.func (.func 68) #[] #[.pointer (some ⟨b1, 0, none⟩), .pointer (some ⟨b2, 0, none⟩), .pointer (some ⟨b3, 0, none⟩)]] W fun e w' => ∃ o c, e = .returned (.slice o (belowL path head ks).length c) ∧ w'.ownsRow W.heap.size 9 1 (.slice o (belowL path head ks).length c) (belowL path head ks).length ((belowL path head ks).map sv) ∧ Below W.heap.size W w' := by
  have l1 := h1.lt
  have l2 := h2.lt
  have l3 := h3.lt
  have hkl : ks.length ≤ 1000000 := hcn ks hks.nodup (fun k hk => (hks.mem k).1 hk)
  have hst := below_stops b1 b2 b3 W.heap.size path head hT hcn ks hks (W.alloc (.cells #[.slice none 0 0] 27)) (hB.alloc hB.size _) (h1.alloc _) (h2.alloc _) (h3.alloc _) (by simp) ⟨by omega, by omega, by omega⟩ (ownAt_boxed (Boxed.new W 27 (.slice none 0 0)))
  have HA := Lib.hid (appendSeq_any b1 b2 b3 (belowL path head ks) ks.length hkl _ hst)
  generalize belowL path head ks = L at *
  clear hT hcn hks hB h1 h2 h3 hst
  go_enter Tryz.func36, Tryz.ntmps36
  go_wp2_with (go_at_call 67; refine HA.out.mono ?_; rintro e w1 ⟨o, c, rfl, hr, hb⟩; have H1 := Lib.hid (And.intro hr hb); clear hr hb)
  go_ret
  exact ⟨o, c, rfl, H1.out.1, H1.out.2⟩
theorem keys_ext {S : Bs → Option ND} {n : Nat} (h : Cnt S n) : ∀ (m : Nat) (l : List Bs), l.Nodup → (∀ k ∈ l, (S k).isSome = true) → n - l.length ≤ m → ∃ ks : List Bs, ks.Nodup ∧ ∀ k, k ∈ ks ↔ (S k).isSome = true
  | 0, l, hn, hm, hl => by
    refine ⟨l, hn, fun k => ⟨hm k, fun hk => ?_⟩⟩
    by_cases hkl : k ∈ l
    · exact hkl
    · have := h (k :: l) (List.nodup_cons.2 ⟨hkl, hn⟩) (fun q hq => by rcases List.mem_cons.1 hq with rfl | hq; exact hk; exact hm q hq)
      simp at this; omega
  | m + 1, l, hn, hm, hl => by
    by_cases hall : ∀ k, (S k).isSome = true → k ∈ l
    · exact ⟨l, hn, fun k => ⟨hm k, hall k⟩⟩
    · obtain ⟨k, hk⟩ := Classical.not_forall.1 hall
      obtain ⟨hk1, hk2⟩ := Classical.not_imp.1 hk
      have hnd := List.nodup_cons.2 ⟨hk2, hn⟩
      have hmm : ∀ q ∈ k :: l, (S q).isSome = true := fun q hq => by rcases List.mem_cons.1 hq with rfl | hq; exact hk1; exact hm q hq
      have := h (k :: l) hnd hmm
      exact keys_ext h m (k :: l) hnd hmm (by simp at this ⊢; omega)
theorem keys_of {S : Bs → Option ND} {n : Nat} (h : Cnt S n) : ∃ ks, KeysOf S ks := by
  obtain ⟨l, h1, h2⟩ := keys_ext h n [] List.nodup_nil (by simp) (by simp)
  exact ⟨srt l, (srt_perm l).nodup_iff.2 h1, fun k => by rw [(srt_perm l).mem_iff]; exact h2 k, srt_idem l⟩
def delN (nd : Bs → Option Nat) (k : Bs) : Bs → Option Nat := fun k' => if k' = k then none else nd k'
def delS1 (S : Bs → Option ND) (k : Bs) : Bs → Option ND := fun k' => if k' = k then none else S k'
/-- A path taken out of a tree. -/
theorem Tr.del {w : World} {B tb m : Nat} {who : Own} {nd : Bs → Option Nat} {S : Bs → Option ND} (h : Tr w B tb m who nd S) (k : Bs) (hk : k.length ≤ maxLen) :
    ∃ w', (∀ ty, (Builtin.delete_ #[50, 9] ty #[.map (some m), .string ⟨k.toArray⟩]).run Tryz.prog w = .ok (.tuple #[]) w') ∧ Tr w' B tb m who (delN nd k) (delS1 S k) ∧ Stp who who w w' := by
  have hx := fun ty => h.tree.map.delete (ty := ty) Skeyed Tryz.underlying50 sv_inj (k := k) (skey hk)
  obtain ⟨w3, hup, ho, hma⟩ := hx 0
  have htm : tb ≠ m := by
    rintro rfl
    have := h.wtb
    rw [h.wm] at this; simp at this
  have hm1 : ∀ j t, who j = some t → t.1 ≠ 1 → j ≠ m := fun j t hj h1 => by rintro rfl; rw [h.wm] at hj; cases hj; exact h1 rfl
  refine ⟨w3, fun ty => ?_, ⟨⟨(ho.block tb htm).trans h.tree.cel, ?_, fun q b hq => ?_⟩, h.wm, h.wtb, fun q => ?_, fun q b n hq hS => ?_, fun j hj => by rw [ho.size]; exact h.lo j hj⟩, ⟨⟨ho.os, ho.tape, ho.output, Nat.le_of_eq ho.size.symm, fun j hj hn => ho.block j (by rintro rfl; rw [h.wm] at hn; cases hn)⟩, fun _ _ => rfl⟩⟩
  · have : (Builtin.delete_ #[50, 9] ty #[.map (some m), sv k]).run Tryz.prog w = (Builtin.delete_ #[50, 9] 0 #[.map (some m), sv k]).run Tryz.prog w := rfl
    exact this.trans hup
  · have e : (fun k' : Bs => (delN nd k k').map fun b => Value.pointer (some ⟨b, 0, none⟩)) = fun k' => if k' = k then none else (nd k').map fun b => Value.pointer (some ⟨b, 0, none⟩) := by
      funext k'
      unfold delN
      by_cases h : k' = k
      · rw [if_pos h, if_pos h]; rfl
      · rw [if_neg h, if_neg h]
    rw [e]
    exact hma
  · unfold delN at hq
    by_cases hqk : q = k
    · rw [if_pos hqk] at hq; cases hq
    · rw [if_neg hqk] at hq
      obtain ⟨n, _, hN⟩ := h.has hq
      obtain ⟨a, c, d, hb⟩ := h.tree.node q b hq
      exact ⟨a, c, d, (ho.block b (hm1 b _ hN.1 (by simp))).trans hb⟩
  · unfold delN delS1
    by_cases hqk : q = k
    · rw [if_pos hqk, if_pos hqk]; rfl
    · rw [if_neg hqk, if_neg hqk]; exact h.same q
  · unfold delN at hq
    unfold delS1 at hS
    by_cases hqk : q = k
    · rw [if_pos hqk] at hq; cases hq
    · rw [if_neg hqk] at hq hS
      have hN := h.node q b n hq hS
      exact hN.keep (ho.block b (hm1 b _ hN.1 (by simp))) (fun j hj => ho.block j (hm1 j _ hj (by simp))) (fun j hj => ho.block j (hm1 j _ hj (by simp))) (fun _ _ h => h)
end Go.Proofs.YtjgdfgpnmmkjfaaGreatDoor
namespace Go.Proofs.YtjgdfgpnmmkjfaaGreatDoor
set_option linter.unusedVariables false
set_option linter.unusedSimpArgs false
open Go.RowKit Go.Shelf Go.MapKept

def delAll (S : Bs → Option ND) (L : List Bs) : Bs → Option ND := L.foldl delS1 S
theorem delAll_snoc (S : Bs → Option ND) (L : List Bs) (k : Nat) (hk : k < L.length) : delAll S (L.take (k + 1)) = delS1 (delAll S (L.take k)) L[k] := by
  unfold delAll
  rw [List.take_succ_eq_append_getElem hk, List.foldl_append]; rfl
theorem delAll_at : ∀ (L : List Bs) (S : Bs → Option ND) (k : Bs), delAll S L k = if k ∈ L then none else S k
  | [], S, k => by simp [delAll]
  | p :: r, S, k => by
    show delAll (delS1 S p) r k = _
    rw [delAll_at r]
    unfold delS1
    by_cases h1 : k ∈ r
    · rw [if_pos h1, if_pos (List.mem_cons_of_mem _ h1)]
    · rw [if_neg h1]
      by_cases h2 : k = p
      · rw [if_pos h2, if_pos (by rw [h2]; simp)]
      · rw [if_neg h2, if_neg (by simp [h1, h2])]
/-- What goes with a path. -/
def goneL (key : Bs) (ks : List Bs) : List Bs := belowL key (headB key) ks ++ if key = rootN then [] else [key]
def delS (S : Bs → Option ND) (key : Bs) (ks : List Bs) : Bs → Option ND := if key = rootN then setS (delAll (setS S key .new) (goneL key ks)) rootN .new else delAll S (goneL key ks)
theorem own_mem {g n c j : Nat} (h : j ∈ (Value.slice (some ⟨g, 0, none⟩) n c).ownBlock.toList) : g = j := by simp [Value.ownBlock] at h; omega
theorem own_eq {g n c j : Nat} (h : (Value.slice (some ⟨g, 0, none⟩) n c).ownBlock = some j) : g = j := by simpa [Value.ownBlock] using h
theorem own_eqO {o : Option Addr} {n c j : Nat} (h : (Value.slice o n c).ownBlock = some j) : ∃ a, o = some a ∧ a.block = j := by
  cases o with
  | none => simp [Value.ownBlock] at h
  | some a => exact ⟨a, rfl, by simpa [Value.ownBlock] using h⟩
theorem own_memO {o : Option Addr} {n c j : Nat} (h : j ∈ (Value.slice o n c).ownBlock.toList) : ∃ a, o = some a ∧ a.block = j := own_eqO (n := n) (c := c) (by simpa using h)
theorem ownV_nil (who : Own) (t : Nat × Bs) : ownV who (.slice none 0 0) t = who := by
  funext j; unfold ownV; rw [if_neg]; simp [Value.ownBlock]
theorem Tr.reset {w : World} {B tb m b : Nat} {who : Own} {nd : Bs → Option Nat} {S : Bs → Option ND} {k : Bs} {n : ND} (h : Tr w B tb m who nd S) (hb : nd k = some b) (hS : S k = some n) :
    Tr (((w.setCell ⟨b, 0, none⟩ (.slice none 0 0)).setCell ⟨b, 1, none⟩ (.slice none 0 0)).setCell ⟨b, 2, none⟩ (.string ⟨#[]⟩)) B tb m who nd (setS S k .new) ∧ Stp who who w (((w.setCell ⟨b, 0, none⟩ (.slice none 0 0)).setCell ⟨b, 1, none⟩ (.slice none 0 0)).setCell ⟨b, 2, none⟩ (.string ⟨#[]⟩)) := by
  obtain ⟨t1, s1⟩ := h.search (L := []) hb hS (Below.refl _ _) (v := .slice none 0 0) ⟨rfl, .inl ⟨rfl, rfl⟩⟩
  rw [ownV_nil] at t1 s1
  obtain ⟨t2, s2⟩ := t1.cleared hb (setS_at _ _ _)
  obtain ⟨t3, s3⟩ := t2.unknown hb (setS_at _ _ _) []
  rw [setS_setS, setS_setS] at t3
  exact ⟨t3, (s1.trans s2).trans s3⟩
/-- What 'Delete' leaves. -/
def DelR (w : World) (B tb m : Nat) (who : Own) (nd : Bs → Option Nat) (S : Bs → Option ND) (key : Bs) (ks : List Bs) (e : Ending) (w' : World) : Prop :=
  match S key with
  | none => e = .returned (.tuple #[.slice none 0 0, .int .i64 8]) ∧ Tr w' B tb m who nd S ∧ Stp who who w w'
  | some _ => ∃ o c who' nd', e = .returned (.tuple #[.slice o (goneL key ks).length c, .int .i64 0]) ∧ w'.ownsRow w.heap.size 9 1 (.slice o (goneL key ks).length c) (goneL key ks).length ((srt (goneL key ks)).map sv) ∧
    Tr w' B tb m who' nd' (delS S key ks) ∧ Stp who who' w w' ∧ ∀ a, o = some a → who' a.block = none
set_option maxRecDepth 100000 in
set_option maxHeartbeats 3200000 in
theorem Delete_any {w : World} {B tb m : Nat} {who : Own} {nd : Bs → Option Nat} {S : Bs → Option ND} (h : Tr w B tb m who nd S) (hcn : Cnt S 100000) (hlen : ∀ k, (S k).isSome = true → k.length ≤ 100000) {ks : List Bs} (hks : KeysOf S ks) (path : Bs) (hp : path.length ≤ 20000) :
    Calls Tryz.prog 15 #[.pointer (some ⟨tb, 0, none⟩), .string ⟨path.toArray⟩] w (DelR w B tb m who nd S (canonN rootN path) ks) := by
  have A0 := at_any h.tree path (by omega)
  cases hnd : nd (canonN rootN path) with
  | none =>
    have hSn := h.none_of hnd
    rw [hnd] at A0
    have A1 : Hid (Calls Tryz.prog 32 #[.pointer (some ⟨tb, 0, none⟩), .string ⟨path.toArray⟩] w fun e w' => e = .returned (.pointer none) ∧ Below w.heap.size w w') := A0
    have HR : Hid (∀ w', Below w.heap.size w w' → DelR w B tb m who nd S (canonN rootN path) ks (.returned (.tuple #[.slice none 0 0, .int .i64 8])) w') := fun w' hb => by
      unfold DelR; rw [hSn]
      exact ⟨rfl, h.low hb, Stp.of_below hb⟩
    generalize canonN rootN path = key at *
    clear h A0 hnd hp hcn hlen hks hSn
    go_enter Tryz.func15, Tryz.ntmps15
    go_wp2_with (go_at_call 32; refine A1.out.mono ?_; rintro e w2 ⟨rfl, hB⟩; have HB := Lib.hid hB; clear hB)
    go_ret2
    exact HR.out _ HB.out
  | some b =>
    obtain ⟨nn, hS, _⟩ := h.has hnd
    rw [hnd] at A0
    have A1 : Hid (Calls Tryz.prog 32 #[.pointer (some ⟨tb, 0, none⟩), .string ⟨path.toArray⟩] w fun e w' => e = .returned (.pointer (some ⟨b, 0, none⟩)) ∧ Below w.heap.size w w') := A0
    have CA : Hid (∀ W, Calls Tryz.prog 19 #[.string ⟨#[58, 58]⟩, .string ⟨path.toArray⟩] W fun e w' => e = .returned (.string ⟨(canonN rootN path).toArray⟩) ∧ Below W.heap.size W w') := fun W => Canonical_any rootN path (by decide) (by omega) W
    have hkl := canon_len3 path
    generalize canonN rootN path = key at *
    have hcn2 : Cnt S 1000000 := fun l h1 h2 => by have := hcn l h1 h2; omega
    have BE : Hid (∀ W, Calls Tryz.prog 37 #[.pointer (some ⟨tb, 0, none⟩), .string ⟨key.toArray⟩] W fun e w' => ∃ b1 b2 b3, e = .returned (.func (.func 68) #[] #[.pointer (some ⟨b1, 0, none⟩), .pointer (some ⟨b2, 0, none⟩), .pointer (some ⟨b3, 0, none⟩)]) ∧
      Boxed w' b1 25 (.pointer (some ⟨tb, 0, none⟩)) ∧ Boxed w' b2 9 (.string ⟨key.toArray⟩) ∧ Boxed w' b3 9 (.string ⟨(headB key).toArray⟩) ∧ Below W.heap.size W w') := fun W => bel_any tb key (by omega) W
    have CO : Hid (∀ W b1 b2 b3, Below w.heap.size w W → Boxed W b1 25 (.pointer (some ⟨tb, 0, none⟩)) → Boxed W b2 9 (.string ⟨key.toArray⟩) → Boxed W b3 9 (.string ⟨(headB key).toArray⟩) →
      Calls Tryz.prog 36 #[.func (.func 68) #[] #[.pointer (some ⟨b1, 0, none⟩), .pointer (some ⟨b2, 0, none⟩), .pointer (some ⟨b3, 0, none⟩)]] W fun e w' => ∃ o c, e = .returned (.slice o (belowL key (headB key) ks).length c) ∧ w'.ownsRow w.heap.size 9 1 (.slice o (belowL key (headB key) ks).length c) (belowL key (headB key) ks).length ((belowL key (headB key) ks).map sv) ∧ Below w.heap.size w w') := fun W b1 b2 b3 hb h1 h2 h3 =>
      (collect_any h hcn2 hks key (headB key) hb h1 h2 h3).mono fun e w' ⟨o, c, he, hr, hb2⟩ => ⟨o, c, he, row_base hr hb.size, hb.trans (hb2.mono hb.size)⟩
    have hLk : ∀ p ∈ belowL key (headB key) ks, p.length ≤ 100000 := fun p hp => hlen p ((hks.mem p).1 (List.mem_filter.1 hp).1)
    have hLl : (belowL key (headB key) ks).length ≤ 100000 := by
      have h1 := List.length_filter_le (inBel key (headB key)) ks
      have h2 := hcn ks hks.nodup (fun k hk => (hks.mem k).1 hk)
      unfold belowL; omega
    by_cases hroot : key = rootN
    · have HS := Lib.hid hS
      have hgone : goneL key ks = belowL key (headB key) ks := by unfold goneL; rw [if_pos hroot]; simp
      obtain ⟨L0, hL0⟩ : ∃ L0, belowL key (headB key) ks = L0 := ⟨_, rfl⟩
      rw [hL0] at hLk hLl CO hgone
      obtain ⟨L, hL⟩ : ∃ L, L = L0 := ⟨_, rfl⟩
      have HPL : Hid (∀ p ∈ L, p.length ≤ 100000) := fun p hp => by
        rw [hL] at hp
        exact hLk p hp
      rw [← hL] at hgone
      obtain ⟨n, hn⟩ : ∃ n, L.length = n := ⟨_, rfl⟩
      have hn1 : n ≤ 100001 := by rw [← hn, hL]; omega
      have HN : Hid (L.length = n ∧ ∀ p ∈ L, p.length ≤ 100000) := ⟨hn, HPL.out⟩
      obtain ⟨n0, hn0⟩ : ∃ n0, L0.length = n0 := ⟨_, rfl⟩
      have hn01 : n0 ≤ 100000 := by omega
      rw [hn0] at CO
      have HL := Lib.hid (And.intro hL (And.intro hn0 hgone))
      have HSRT : Hid (∀ W v, W.ownsRow w.heap.size 9 1 v n (L.map sv) → Calls Tryz.prog 31 #[v] W fun e w' => e = .returned (.tuple #[]) ∧ w'.ownsRow w.heap.size 9 1 v n ((srt L).map sv) ∧ Kp v.ownBlock.toList W w') := fun W v hv => by
        rw [← hn] at hv ⊢
        exact sort_any hv (by omega)
      have H := Lib.hid h
      have HND := Lib.hid hnd
      have HEND : Hid (∀ w' e o c who' nd', e = Ending.returned (.tuple #[.slice o n c, .int .i64 0]) → w'.ownsRow w.heap.size 9 1 (.slice o n c) n ((srt L).map sv) → Tr w' B tb m who' nd' (setS (delAll (setS S key .new) L) rootN .new) → Stp who who' w w' → (∀ a, o = some a → who' a.block = none) → DelR w B tb m who nd S key ks e w') := fun w' e o c who' nd' h1 h2 h3 h4 h5 => by
        unfold DelR; rw [hS]
        refine ⟨o, c, who', nd', ?_, ?_, ?_, h4, h5⟩
        · rw [hgone, hn]; exact h1
        · rw [hgone, hn]; exact h2
        · unfold delS; rw [if_pos hroot, hgone]; exact h3
      subst hroot
      clear h A0 hnd hp hcn hcn2 hlen hks hS hkl hLk hLl hL0 hL hn hn0 hgone
      have HRE : Hid (∀ W, Below w.heap.size w W → Tr (((W.setCell ⟨b, 0, none⟩ (.slice none 0 0)).setCell ⟨b, 1, none⟩ (.slice none 0 0)).setCell ⟨b, 2, none⟩ (.string ⟨#[]⟩)) B tb m who nd (setS S rootN .new) ∧ Stp who who w (((W.setCell ⟨b, 0, none⟩ (.slice none 0 0)).setCell ⟨b, 1, none⟩ (.slice none 0 0)).setCell ⟨b, 2, none⟩ (.string ⟨#[]⟩))) := fun W hb => by
        have h2 := (H.out.low hb).reset HND.out HS.out
        exact ⟨h2.1, (Stp.of_below hb).trans h2.2⟩
      have HNC : Hid (∀ W, Below w.heap.size w W → ∃ vs ve vu, W.cell? ⟨b, 0, none⟩ = some vs ∧ W.cell? ⟨b, 1, none⟩ = some ve ∧ W.cell? ⟨b, 2, none⟩ = some vu ∧ (∀ i, W.frozen? ⟨b, i, none⟩ = false) ∧ W.cell? ⟨tb, 0, none⟩ = some (.map (some m)) ∧ (Instr.lookup 50 (.map (some m)) (.string ⟨#[58, 58]⟩) false).run Tryz.prog W = .ok (.pointer (some ⟨b, 0, none⟩)) W) := fun W hb => by
        obtain ⟨vs, ve, hcn, _⟩ := (H.out.low hb).node3 HND.out HS.out
        obtain ⟨d0, d1, d2, hf⟩ := vcells3 hcn
        have hl := (H.out.low hb).tree.look (k := rootN) (by decide)
        rw [HND.out] at hl
        exact ⟨_, _, _, d0, d1, d2, hf, (vcells1 (H.out.low hb).tree.cel).1, hl⟩
      go_enter Tryz.func15, Tryz.ntmps15
      go_wp2_with (first | (go_at_call 32; refine A1.out.mono ?_; rintro e w1 ⟨rfl, hB⟩; have HB1 := Lib.hid hB; clear hB) | (go_at_call 19; refine (CA.out _).mono ?_; rintro e w2 ⟨rfl, hB⟩; have HB2 := Lib.hid (HB1.out.trans (hB.mono HB1.out.size)); clear hB) | (go_at_call 37; refine (BE.out _).mono ?_; rintro e w3 ⟨b1, b2, b3, rfl, hx1, hx2, hx3, hB⟩; have HB3 := Lib.hid (And.intro (HB2.out.trans (hB.mono HB2.out.size)) (And.intro hx1 (And.intro hx2 hx3))); clear hB hx1 hx2 hx3) | (go_at_call 36; refine (CO.out _ _ _ _ HB3.out.1 HB3.out.2.1 HB3.out.2.2.1 HB3.out.2.2.2).mono ?_; rintro e w4 ⟨oo, oc, rfl, hr, hB⟩; obtain ⟨vs, ve, vu, d0, d1, d2, hf, ct, hlk⟩ := HNC.out _ hB; have hf0 := hf 0; have hf1 := hf 1; have hf2 := hf 2; have HB4 := Lib.hid (And.intro hr hB); clear hr hB hf))
      have hnn0 : n0 = n := by have h1 := HL.out.1; have h2 := HL.out.2.1; have h3 := HN.out.1; rw [h1] at h3; omega
      subst hnn0
      obtain ⟨hT5, hS5⟩ := HRE.out w4 HB4.out.2
      have hbb : b < w.heap.size := by obtain ⟨_, _, _, _, h5, _⟩ := H.out.node3 HND.out HS.out; exact h5
      have hrow5 : (((w4.setCell ⟨b, 0, none⟩ (.slice none 0 0)).setCell ⟨b, 1, none⟩ (.slice none 0 0)).setCell ⟨b, 2, none⟩ (.string ⟨#[]⟩)).ownsRow w.heap.size 9 1 (.slice oo n0 oc) n0 (L0.map sv) := row_keep HB4.out.1 (fun g hg => by
        have hgb : g ≠ b := by have := (row_ids HB4.out.1 g hg).1; omega
        exact (Below.heap_setCell _ ⟨b, 2, none⟩ _ g hgb).trans ((Below.heap_setCell _ ⟨b, 1, none⟩ _ g hgb).trans (Below.heap_setCell _ ⟨b, 0, none⟩ _ g hgb)))
      rw [← HL.out.1] at hrow5
      clear d0 d1 d2 hf0 hf1 hf2 ct hlk hbb
      generalize (((w4.setCell ⟨b, 0, none⟩ (.slice none 0 0)).setCell ⟨b, 1, none⟩ (.slice none 0 0)).setCell ⟨b, 2, none⟩ (.string ⟨#[]⟩)) = w5 at *
      have HROW := Lib.hid hrow5
      have HT5 := Lib.hid (And.intro hT5 hS5)
      have HTX : Hid (TxtRow w5 (.slice oo n0 oc) L) := by
        have := HROW.out
        have e := HN.out.1
        rw [← e] at this ⊢
        exact TxtRow.of_owns this
      have HUN : Hid (∀ a, oo = some a → who a.block = none) := fun a ha => H.out.none_at (TxtRow.nilOr HROW.out a ha)
      have HCAP : Hid (n0 ≤ oc) := by obtain ⟨_, h2, _⟩ := HTX.out.at_; rw [HN.out.1] at h2; exact h2
      clear hT5 hS5 hrow5
      go_loopw [34] (fun q wr => ∃ k : Nat, k ≤ n0 ∧ q = .int .i64 (k : Int) ∧ ∃ nd', Tr wr B tb m who nd' (delAll (setS S rootN .new) (L.take k)) ∧ Stp who who w5 wr) (fun q _ => n0 - (intOf q).toNat)
      case atStart => exact ⟨0, Nat.zero_le _, rfl, nd, HT5.out.1, Stp.refl _ _⟩
      case round =>
        obtain ⟨k, hk, rfl, nd1, hT, hSt⟩ := hrel
        by_cases hlt : k < n0
        · have hkl2 : k < L.length := by have := HN.out.1; omega
          have hrow := HTX.out.fr HUN.out hSt.fr
          obtain ⟨hh, hp1, hp2, hcell⟩ := hrow.at_
          obtain ⟨gb, off, rfl, hgl, hc0⟩ := hcell k hkl2
          have hstep := delAll_snoc (setS S rootN .new) L k hkl2
          have hpl := HN.out.2 L[k] (List.getElem_mem _)
          generalize L[k] = p at *
          have hcx : wr.cell? ⟨gb, off + k, none⟩ = some (.string ⟨p.toArray⟩) := hc0
          have ct := (vcells1 hT.tree.cel).1
          have t0 : decide ((k : Int) < (n0 : Int)) = true := by rw [decide_eq_true_eq]; omega
          have i1 : k < n0 := hlt
          have hcap : n0 ≤ oc := HCAP.out
          have hw1 : IntKind.i64.wrap ((k : Int) + 1) = (k : Int) + 1 := IntWalk.i64_in _ (by omega)
          obtain ⟨wd, hrun, hTd, hSd⟩ := hT.del p (by unfold maxLen; omega)
          have HD := Lib.hid (And.intro hTd (And.intro (hSt.trans hSd) (And.intro hstep hlt)))
          clear hTd hSd hT hSt hrow hh hp1 hp2 hcell hc0 hstep hpl hlt hk hkl2 hgl
          go_wp2_with fail
          exact ⟨⟨k + 1, by have := HD.out.2.2.2; omega, by go_num, _, by rw [HD.out.2.2.1]; exact HD.out.1, HD.out.2.1⟩, by have := HD.out.2.2.2; simp [intOf]; omega⟩
        · have hkn : k = n0 := by omega
          subst hkn
          have t0 : decide ((k : Int) < (k : Int)) = false := by rw [decide_eq_false_iff_not]; omega
          have hnn := HN.out.1
          rw [List.take_of_length_le (by omega)] at hT
          have hrow := row_keep (w' := wr) HROW.out (fun g hg => by
            obtain ⟨a, ha, hb⟩ := own_eqO hg
            exact hSt.fr.block _ (row_ids HROW.out g hg).2 (hb ▸ HUN.out a ha))
          have HSO := Lib.hid (HSRT.out wr _ hrow)
          have HT := Lib.hid (And.intro hT hSt)
          have HKP : Hid (∀ w6 : World, Kp (Value.slice oo k oc).ownBlock.toList wr w6 → Tr w6 B tb m who nd1 (delAll (setS S rootN .new) L) ∧ Stp who who w w6) := fun w6 hk6 => by
            have hkeep : ∀ j, who j ≠ none → w6.heap[j]? = wr.heap[j]? := fun j hj => hk6.block j (HT.out.1.lo j hj).2 (fun hm => hj (by obtain ⟨a, ha, hb⟩ := own_memO hm; exact hb ▸ HUN.out a ha))
            have hs1 : Stp who who w wr := HT5.out.2.trans HT.out.2
            exact ⟨HT.out.1.keep hk6.size hkeep, ⟨⟨hk6.os.trans hs1.fr.os, hk6.tape.trans hs1.fr.tape, hk6.output.trans hs1.fr.output, Nat.le_trans hs1.fr.size hk6.size, fun j hj hn => (hk6.block j (Nat.lt_of_lt_of_le hj hs1.fr.size) (fun hm => by
              obtain ⟨a, ha, hb⟩ := own_memO hm
              have := TxtRow.nilOr HROW.out a ha
              omega)).trans (hs1.fr.block j hj hn)⟩, fun _ _ => rfl⟩⟩
          clear hT hSt hrow hk hlt hnn
          go_wp2_with (go_at_call 31; go_loud (refine HSO.out.mono ?_; rintro e w6 ⟨rfl, hr6, hk6⟩; obtain ⟨hT6, hS6⟩ := HKP.out w6 hk6; have ct6 := (vcells1 hT6.tree.cel).1; obtain ⟨w7, hup0, hT7, hS7⟩ := hT6.put rootN (by decide); have hup : (Instr.mapUpdate 50 (.map (some m)) (.string ⟨#[58, 58]⟩) (.pointer (some ⟨w6.heap.size, 0, none⟩))).run Tryz.prog (w6.alloc (.cells #[.slice none 0 0, .slice none 0 0, .string ⟨#[]⟩] 49)) = .ok () w7 := hup0; clear hup0; have H6 := Lib.hid (And.intro hr6 (And.intro hT6 (And.intro hS6 (And.intro hT7 hS7)))); clear hr6 hk6 hT6 hS6 hT7 hS7))
          go_ret2
          obtain ⟨hr6, hT6, hS6, hT7, hS7⟩ := H6.out
          refine HEND.out _ _ _ _ _ _ rfl (row_keep hr6 (fun g hg => by
            obtain ⟨a, ha, hb⟩ := own_eqO hg
            exact hS7.fr.block _ (row_ids hr6 g hg).2 (hb ▸ HUN.out a ha))) hT7 (hS6.trans hS7) (fun a ha => ?_)
          rw [Own.set_other]
          · exact HUN.out a ha
          · have := (row_ids hr6 a.block (by rw [ha]; rfl)).2
            omega
    · have HS := Lib.hid hS
      have hgone : goneL key ks = belowL key (headB key) ks ++ [key] := by unfold goneL; rw [if_neg hroot]
      obtain ⟨L0, hL0⟩ : ∃ L0, belowL key (headB key) ks = L0 := ⟨_, rfl⟩
      rw [hL0] at hLk hLl CO hgone
      obtain ⟨L, hL⟩ : ∃ L, L = L0 ++ [key] := ⟨_, rfl⟩
      have HPL : Hid (∀ p ∈ L, p.length ≤ 100000) := fun p hp => by
        rw [hL] at hp
        rcases List.mem_append.1 hp with hp | hp
        · exact hLk p hp
        · simp at hp; subst hp; omega
      rw [← hL] at hgone
      obtain ⟨n, hn⟩ : ∃ n, L.length = n := ⟨_, rfl⟩
      have hn1 : n ≤ 100001 := by rw [← hn, hL]; simp; omega
      have HN : Hid (L.length = n ∧ ∀ p ∈ L, p.length ≤ 100000) := ⟨hn, HPL.out⟩
      obtain ⟨n0, hn0⟩ : ∃ n0, L0.length = n0 := ⟨_, rfl⟩
      have hn01 : n0 ≤ 100000 := by omega
      rw [hn0] at CO
      have HL := Lib.hid (And.intro hL (And.intro hn0 hgone))
      have HSRT : Hid (∀ W v, W.ownsRow w.heap.size 9 1 v n (L.map sv) → Calls Tryz.prog 31 #[v] W fun e w' => e = .returned (.tuple #[]) ∧ w'.ownsRow w.heap.size 9 1 v n ((srt L).map sv) ∧ Kp v.ownBlock.toList W w') := fun W v hv => by
        rw [← hn] at hv ⊢
        exact sort_any hv (by omega)
      have H := Lib.hid h
      have HND := Lib.hid hnd
      have HEND : Hid (∀ w' e o c nd', e = Ending.returned (.tuple #[.slice o n c, .int .i64 0]) → w'.ownsRow w.heap.size 9 1 (.slice o n c) n ((srt L).map sv) → Tr w' B tb m who nd' (delAll S L) → Stp who who w w' → (∀ a, o = some a → who a.block = none) → DelR w B tb m who nd S key ks e w') := fun w' e o c nd' h1 h2 h3 h4 h5 => by
        unfold DelR; rw [hS]
        refine ⟨o, c, who, nd', ?_, ?_, ?_, h4, h5⟩
        · rw [hgone, hn]; exact h1
        · rw [hgone, hn]; exact h2
        · unfold delS; rw [if_neg hroot, hgone]; exact h3
      have e1 : (key == rootN) = false := beq_eq_false_iff_ne.2 hroot
      have e2 : (⟨key.toArray⟩ : ByteArray) ≠ ⟨#[58, 58]⟩ := fun e => hroot (by simpa [rootN] using congrArg (fun b : ByteArray => b.data.toList) e)
      have e3 : (key == [58, 58]) = false := e1
      clear h A0 hnd hp hcn hcn2 hlen hks hS hkl hLk hLl hL0 hL hn hn0 hgone hroot
      go_enter Tryz.func15, Tryz.ntmps15
      go_wp2_with (first | (go_at_call 32; refine A1.out.mono ?_; rintro e w1 ⟨rfl, hB⟩; have HB1 := Lib.hid hB; clear hB) | (go_at_call 19; refine (CA.out _).mono ?_; rintro e w2 ⟨rfl, hB⟩; have HB2 := Lib.hid (HB1.out.trans (hB.mono HB1.out.size)); clear hB) | (go_at_call 37; refine (BE.out _).mono ?_; rintro e w3 ⟨b1, b2, b3, rfl, hx1, hx2, hx3, hB⟩; have HB3 := Lib.hid (And.intro (HB2.out.trans (hB.mono HB2.out.size)) (And.intro hx1 (And.intro hx2 hx3))); clear hB hx1 hx2 hx3) | (go_at_call 36; refine (CO.out _ _ _ _ HB3.out.1 HB3.out.2.1 HB3.out.2.2.1 HB3.out.2.2.2).mono ?_; rintro e w4 ⟨po, pc, rfl, hr, hB⟩; have HB4 := Lib.hid (And.intro hr hB); clear hr hB) | (at_builtin; go_loud (refine wpList_push rfl (.tmp 28) (.tmp 30) 27 rfl w.heap.size 9 (.string ⟨#[]⟩) 16 Tryz.underlying27 infoStr rfl (.slice po n0 pc) n0 _ rfl HB4.out.1 (.string ⟨key.toArray⟩) _ rfl rfl (by unfold maxLen; omega) (by omega) HB4.out.2.size ?_); intro g1 oc w5 hg1 hown5 hb5 hloc; have H5 := Lib.hid (And.intro hown5 (HB4.out.2.trans hb5)); clear hg1 hown5 hb5 hloc))
      have hn2 : n0 + 1 = n := by have h1 := HL.out.1; have h2 := HL.out.2.1; have h3 := HN.out.1; rw [h1, List.length_append] at h3; simpa [h2] using h3
      have HROW : Hid (w5.ownsRow w.heap.size 9 1 (.slice (some ⟨g1, 0, none⟩) n oc) n (L.map sv)) := by
        have := H5.out.1
        rw [hn2] at this
        rw [HL.out.1, List.map_append]; exact this
      rw [hn2, show ((n0 : Int) + 1 : Int) = (n : Int) by omega]
      have HTX : Hid (TxtRow w5 (.slice (some ⟨g1, 0, none⟩) n oc) L) := by
        have := HROW.out
        have e := HN.out.1
        rw [← e] at this ⊢
        exact TxtRow.of_owns this
      have HUN : Hid (∀ a, some (⟨g1, 0, none⟩ : Addr) = some a → who a.block = none) := fun a ha => H.out.none_at (TxtRow.nilOr HROW.out a ha)
      have HCAP : Hid (n ≤ oc) := by obtain ⟨_, h2, _⟩ := HTX.out.at_; rw [HN.out.1] at h2; exact h2
      clear hn2
      go_loopw [34] (fun q wr => ∃ k : Nat, k ≤ n ∧ q = .int .i64 (k : Int) ∧ ∃ nd', Tr wr B tb m who nd' (delAll S (L.take k)) ∧ Stp who who w5 wr) (fun q _ => n - (intOf q).toNat)
      case atStart => exact ⟨0, Nat.zero_le _, rfl, nd, H.out.low H5.out.2, Stp.refl _ _⟩
      case round =>
        obtain ⟨k, hk, rfl, nd1, hT, hSt⟩ := hrel
        by_cases hlt : k < n
        · have hkl2 : k < L.length := by have := HN.out.1; omega
          have hrow := HTX.out.fr HUN.out hSt.fr
          obtain ⟨hh, hp1, hp2, hcell⟩ := hrow.at_
          obtain ⟨gb, off, hga, hgl, hc0⟩ := hcell k hkl2
          cases hga
          have hstep := delAll_snoc S L k hkl2
          have hpl := HN.out.2 L[k] (List.getElem_mem _)
          generalize L[k] = p at *
          have hcx : wr.cell? ⟨g1, k, none⟩ = some (.string ⟨p.toArray⟩) := by rw [Nat.zero_add] at hc0; exact hc0
          have ct := (vcells1 hT.tree.cel).1
          have t0 : decide ((k : Int) < (n : Int)) = true := by rw [decide_eq_true_eq]; omega
          have i1 : k < n := hlt
          have hcap : n ≤ oc := HCAP.out
          have hw1 : IntKind.i64.wrap ((k : Int) + 1) = (k : Int) + 1 := IntWalk.i64_in _ (by omega)
          obtain ⟨wd, hrun, hTd, hSd⟩ := hT.del p (by unfold maxLen; omega)
          have HD := Lib.hid (And.intro hTd (And.intro (hSt.trans hSd) (And.intro hstep hlt)))
          clear hTd hSd hT hSt hrow hh hp1 hp2 hcell hc0 hstep hpl hlt hk hkl2 hgl
          go_wp2_with fail
          exact ⟨⟨k + 1, by have := HD.out.2.2.2; omega, by go_num, _, by rw [HD.out.2.2.1]; exact HD.out.1, HD.out.2.1⟩, by have := HD.out.2.2.2; simp [intOf]; omega⟩
        · have hkn : k = n := by omega
          subst hkn
          have t0 : decide ((k : Int) < (k : Int)) = false := by rw [decide_eq_false_iff_not]; omega
          have hnn := HN.out.1
          rw [List.take_of_length_le (by omega)] at hT
          have hrow := row_keep (w' := wr) HROW.out (fun g hg => (own_eq hg) ▸ hSt.fr.block _ (row_ids HROW.out g1 rfl).2 (HUN.out _ rfl))
          have HSO := Lib.hid (HSRT.out wr _ hrow)
          have HT := Lib.hid (And.intro hT hSt)
          clear hT hSt hrow hk hlt hnn
          go_wp2_with (go_at_call 31; go_loud (refine HSO.out.mono ?_; rintro e w6 ⟨rfl, hr6, hk6⟩; have H6 := Lib.hid (And.intro hr6 hk6); clear hr6 hk6))
          go_ret2
          obtain ⟨hr6, hk6⟩ := H6.out
          have hkeep : ∀ j, who j ≠ none → w6.heap[j]? = wr.heap[j]? := fun j hj => hk6.block j (HT.out.1.lo j hj).2 (fun hm => hj ((own_mem hm) ▸ HUN.out _ rfl))
          refine HEND.out w6 _ _ _ nd1 rfl hr6 (HT.out.1.keep hk6.size hkeep) ?_ HUN.out
          have hs1 : Stp who who w wr := (Stp.of_below H5.out.2).trans HT.out.2
          have hgw := (row_ids HROW.out g1 rfl).1
          exact ⟨⟨hk6.os.trans hs1.fr.os, hk6.tape.trans hs1.fr.tape, hk6.output.trans hs1.fr.output, Nat.le_trans hs1.fr.size hk6.size, fun j hj hn => (hk6.block j (Nat.lt_of_lt_of_le hj hs1.fr.size) (fun hm => absurd (own_mem hm) (by omega))).trans (hs1.fr.block j hj hn)⟩, fun _ _ => rfl⟩
end Go.Proofs.YtjgdfgpnmmkjfaaGreatDoor

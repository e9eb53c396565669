/- 'slices.Sort' of an own row of texts; 'All' of a tree of namespaces. -/
import Derived.Test.YtjgdfgpnmmkjfaaGreatDoorNTree
import Derived.Lib.OwnBridge
import Derived.Lib.AppendIntMem
import Derived.Maps.RangeWalk
import Derived.Sort.KeysCollected
namespace Go.Proofs.YtjgdfgpnmmkjfaaGreatDoor
set_option linter.unusedVariables false
set_option linter.unusedSimpArgs false
open Go.RowKit Go.MapKept
open Go.ChangeMaps (setBlock)

def srt (l : List Bs) : List Bs := l.mergeSort fun x y => decide (x ≤ y)
theorem srt_perm (l : List Bs) : (srt l).Perm l := List.mergeSort_perm _ _
theorem srt_of_perm {l l' : List Bs} (h : l.Perm l') : srt l = srt l' := mergeSort_of_perm h
theorem srt_len (l : List Bs) : (srt l).length = l.length := (srt_perm l).length_eq
theorem srt_idem (l : List Bs) : srt (srt l) = srt l := srt_of_perm (srt_perm l)
theorem sort_any {w : World} {B : Nat} {v : Value} {ss : List Bs} (h : w.ownsRow B 9 1 v ss.length (ss.map sv)) (hl : ss.length ≤ 1000000000) :
    Calls Tryz.prog 31 #[v] w fun e w' => e = .returned (.tuple #[]) ∧ w'.ownsRow B 9 1 v ss.length ((srt ss).map sv) ∧ Kp v.ownBlock.toList w w' := by
  by_cases hv : v = .slice none 0 0
  · subst hv
    have h0 : ss.length = 0 := by
      rcases h.2 with ⟨_, h0⟩ | ⟨g, cap, cur, e, _⟩
      · exact h0
      · cases e
    obtain rfl : ss = [] := List.length_eq_zero_iff.1 h0
    refine (Tryz.slices_Sort_string_none none 0 w).mono fun e w' ⟨he, hw⟩ => ⟨he, ?_, ?_⟩
    · subst hw; rw [show srt [] = [] by simp [srt]]; exact h
    · subst hw; exact Kp.refl _ _
  · obtain ⟨g, cap, rfl, hb, hg, hn, hm, hzl, hH⟩ := Lib.holds_of_ownsRow (enc := Proofs.encStr) (zs := ss) h hv
    refine (Tryz.slices_Sort_string g 0 cap ss w hH hg (by omega)).mono fun e w' ⟨he, n, os, hw⟩ => ⟨he, ?_, ?_⟩
    · subst hw
      have h2 := Lib.ownsRow_putRow (enc := Proofs.encStr) (q := n) (k := ss.length) (zs := ss) (ys := srt ss) h (srt_len ss) (Nat.le_refl _)
      rw [List.take_of_length_le (by rw [srt_len]; exact Nat.le_refl _)] at h2
      exact Lib.ownsRow_grow h2 0 os
    · subst hw
      have e0 : ∀ j, j < w.heap.size → j ≠ g → (Sort.grow (Sort.putRow Proofs.encStr (Sort.ahead w n) g 0 (srt ss).toArray) os).heap[j]? = w.heap[j]? := fun j hj hne => by
        have hlt : j < (Sort.putRow Proofs.encStr (Sort.ahead w n) g 0 (srt ss).toArray).heap.size := by simpa [Sort.putRow, Sort.mapBlock, Sort.ahead] using hj
        unfold Sort.grow
        simp only
        rw [Array.getElem?_append_left hlt]
        simp [Sort.putRow, Sort.mapBlock, Sort.ahead, Array.getElem?_modify, Ne.symm hne]
      refine ⟨rfl, rfl, rfl, ?_, fun j hj hne => e0 j hj (by simpa [Value.ownBlock] using hne)⟩
      simp [Sort.grow, Sort.putRow, Sort.mapBlock, Sort.ahead]
/-- At most n paths. -/
def Cnt (S : Bs → Option ND) (n : Nat) : Prop := ∀ ks : List Bs, ks.Nodup → (∀ k ∈ ks, (S k).isSome = true) → ks.length ≤ n
/-- The paths of a tree, ascending. -/
structure KeysOf (S : Bs → Option ND) (ks : List Bs) : Prop where
  nodup : ks.Nodup
  mem : ∀ k, k ∈ ks ↔ (S k).isSome = true
  srt : srt ks = ks
theorem KeysOf.eq {S : Bs → Option ND} {a b : List Bs} (ha : KeysOf S a) (hb : KeysOf S b) : a = b := by
  rw [← ha.srt, ← hb.srt]
  exact srt_of_perm ((List.perm_ext_iff_of_nodup ha.nodup hb.nodup).2 fun k => (ha.mem k).trans (hb.mem k).symm)
theorem born_one {es : Array MapEntry} (h : (es.toList.map (·.born)).Nodup) {x y : MapEntry} (hx : x ∈ es.toList) (hy : y ∈ es.toList) (e : x.born = y.born) : x = y := by
  obtain ⟨i1, hi1, e1⟩ := List.getElem_of_mem hx
  obtain ⟨i2, hi2, e2⟩ := List.getElem_of_mem hy
  have hnd := List.pairwise_iff_getElem.1 h
  rcases Nat.lt_trichotomy i1 i2 with hlt | heq | hlt
  · exact absurd (show (es.toList.map (·.born))[i1]'(by simpa using hi1) = (es.toList.map (·.born))[i2]'(by simpa using hi2) from by rw [List.getElem_map, List.getElem_map, e1, e2, e]) (hnd i1 i2 (by simpa using hi1) (by simpa using hi2) hlt)
  · subst heq; rw [← e1, ← e2]
  · exact absurd (show (es.toList.map (·.born))[i2]'(by simpa using hi2) = (es.toList.map (·.born))[i1]'(by simpa using hi1) from by rw [List.getElem_map, List.getElem_map, e1, e2, e]) (hnd i2 i1 (by simpa using hi2) (by simpa using hi1) hlt)
/-- What a range over a map has gathered. -/
structure Seen (es : Array MapEntry) (seen : Array Nat) (ks : List Bs) : Prop where
  nodup : ks.Nodup
  of : ∀ k ∈ ks, ∃ x ∈ es.toList, seen.contains x.born = true ∧ x.key = sv k
  all : ∀ x ∈ es.toList, seen.contains x.born = true → ∃ k ∈ ks, x.key = sv k
theorem Seen.nil (es : Array MapEntry) : Seen es #[] [] := ⟨List.nodup_nil, by simp, by simp⟩
theorem Seen.push {es : Array MapEntry} {clock : Nat} (hs : Stamped es clock) {seen : Array Nat} {ks : List Bs} (h : Seen es seen ks) {en : MapEntry} (he : en ∈ es.toList) (hn : seen.contains en.born = false) {k : Bs} (hk : en.key = sv k) : Seen es (seen.push en.born) (ks ++ [k]) := by
  have hb := ((stamped_iff es clock).1 hs).2.1
  have hnew : k ∉ ks := fun hm => by
    obtain ⟨x, hx, hc, hxk⟩ := h.of k hm
    have := entry_one hs hx he (hxk.trans hk.symm)
    subst this
    rw [hc] at hn; cases hn
  refine ⟨List.nodup_append.2 ⟨h.nodup, by simp, fun a ha b hb => by simp at hb; subst hb; rintro rfl; exact hnew ha⟩, fun q hq => ?_, fun x hx hc => ?_⟩
  · rcases List.mem_append.1 hq with hq | hq
    · obtain ⟨x, hx, hc, hxk⟩ := h.of q hq
      exact ⟨x, hx, by simp at hc ⊢; exact .inl hc, hxk⟩
    · simp at hq; subst hq
      exact ⟨en, he, by simp, hk⟩
  · by_cases hcx : seen.contains x.born = true
    · obtain ⟨q, hq, hxk⟩ := h.all x hx hcx
      exact ⟨q, List.mem_append_left _ hq, hxk⟩
    · have : x.born = en.born := by
        simp at hc hcx
        rcases hc with hc | hc
        · exact absurd hc hcx
        · exact hc
      have := born_one hb hx he this
      subst this
      exact ⟨k, by simp, hk⟩
theorem Kp.of_onlyB {m : Nat} {w w' : World} (ho : Only m w w') : Kp [m] w w' := ⟨ho.os, ho.tape, ho.output, Nat.le_of_eq ho.size.symm, fun j hj hn => ho.block j (by simpa using hn)⟩
set_option maxRecDepth 100000 in
set_option maxHeartbeats 1600000 in
theorem All_any {w : World} {B tb m : Nat} {who : Own} {nd : Bs → Option Nat} {S : Bs → Option ND} (h : Tr w B tb m who nd S) (hc : Cnt S 1000000) :
    Calls Tryz.prog 11 #[.pointer (some ⟨tb, 0, none⟩)] w fun e w' => ∃ o c ks, e = .returned (.slice o ks.length c) ∧ KeysOf S ks ∧ w'.ownsRow w.heap.size 9 1 (.slice o ks.length c) ks.length (ks.map sv) ∧ Below w.heap.size w w' := by
  obtain ⟨c0, _⟩ := vcells1 h.tree.cel
  obtain ⟨es, clock, hes, hst, hkeys, hgm⟩ := h.tree.map
  obtain ⟨hs1, hs2, hs3⟩ := (stamped_iff es clock).1 hst
  have hml : m < w.heap.size := (Array.getElem?_eq_some_iff.1 hes).1
  have hrg := run_range_map (P := Tryz.prog) w 50 9 47 m es clock Tryz.underlying50 hes
  have HE0 : Hid ((w.alloc (.mapIter (some m) clock #[] clock)).heap[w.heap.size]? = some (.mapIter (some m) clock #[] clock) ∧ (w.alloc (.mapIter (some m) clock #[] clock)).heap[m]? = some (.map es clock)) := by
    have := MapKept.heap_alloc w (.mapIter (some m) clock #[] clock)
    exact ⟨this.1, (this.2 m hml).trans hes⟩
  have HMEM : Hid (∀ k, (∃ e ∈ es.toList, e.key = sv k) ↔ (S k).isSome = true) := fun k => by
    rw [← h.same k]
    constructor
    · rintro ⟨e, he, hk⟩
      have : (nd k).map (fun b => Value.pointer (some ⟨b, 0, none⟩)) = some e.val := (hgm k e.val).2 ⟨e, he, hk, rfl⟩
      cases hn : nd k with
      | none => rw [hn] at this; simp at this
      | some b => rfl
    · intro hk
      cases hn : nd k with
      | none => rw [hn] at hk; simp at hk
      | some b =>
        obtain ⟨e, he, hke, _⟩ := (hgm k (.pointer (some ⟨b, 0, none⟩))).1 (by show (nd k).map _ = _; rw [hn]; rfl)
        exact ⟨e, he, hke⟩
  have HK := Lib.hid hkeys
  have HST := Lib.hid hst
  have HCN : Hid (∀ seen ks, Seen es seen ks → ks.length ≤ 1000000) := fun seen ks hs => hc ks hs.nodup (fun k hk => (HMEM.out k).1 (by obtain ⟨x, hx, _, hxk⟩ := hs.of k hk; exact ⟨x, hx, hxk⟩))
  have hB0 : Below w.heap.size w (w.alloc (.mapIter (some m) clock #[] clock)) := (Below.refl _ w).alloc (Nat.le_refl _) _
  have HB0 := Lib.hid hB0
  clear h hkeys hgm hst hc hB0
  go_enter Tryz.func11, Tryz.ntmps11
  go_wp2_with fail
  go_loopg [12, 3] (leftOf es #[]).size (fun g _ o wr => ∃ (seen : Array Nat) (ks : List Bs), (leftOf es seen).size = g ∧ Hid (wr.heap[w.heap.size]? = some (.mapIter (some m) clock seen clock) ∧ wr.heap[m]? = some (.map es clock)) ∧ Hid (Seen es seen ks) ∧ Hid (wr.ownsRow (w.heap.size + 1) 9 1 o ks.length (ks.map sv)) ∧ Hid (Below w.heap.size w wr ∧ w.heap.size + 1 ≤ wr.heap.size))
  case atStart => exact ⟨#[], [], rfl, HE0, Seen.nil es, ⟨rfl, .inl ⟨rfl, rfl⟩⟩, HB0.out, by simp⟩
  case round =>
    obtain ⟨seen, ks, hsz, HE, HS, HO, HB⟩ := hrel
    obtain ⟨oo, oc, rfl⟩ := owns_slice HO.out
    have HL := Lib.hid (HCN.out seen ks HS.out)
    rcases run_next_at (P := Tryz.prog) wr 0 w.heap.size m clock clock seen es clock HE.out.1 HE.out.2 (fun x hx => hs1 x hx) (Nat.le_refl _) with ⟨h0, hrun⟩ | ⟨en, hen, w1, hw1, hrun⟩
    · have HSRT := Lib.hid (sort_any (ss := ks) HO.out (by have := HL.out; omega))
      have HEND : Hid (KeysOf S (srt ks)) := by
        have hs := HS.out
        refine ⟨(srt_perm ks).nodup_iff.2 hs.nodup, fun k => ?_, srt_idem ks⟩
        rw [(srt_perm ks).mem_iff, ← HMEM.out k]
        constructor
        · intro hk
          obtain ⟨x, hx, _, hxk⟩ := hs.of k hk
          exact ⟨x, hx, hxk⟩
        · rintro ⟨e, he, hke⟩
          obtain ⟨q, hq, hxk⟩ := hs.all e he (all_seen es seen h0 e he)
          rw [hke] at hxk
          rw [sv_inj _ _ hxk]; exact hq
      have HLEN := Lib.hid (srt_len ks)
      have HOW := Lib.hid (row_ids HO.out)
      clear h0
      go_wp2_with (go_at_call 31; refine HSRT.out.mono ?_; rintro e w2 ⟨rfl, ho2, hk2⟩; have H2 := Lib.hid (And.intro ho2 hk2); clear ho2 hk2)
      go_ret
      obtain ⟨ho2, hk2⟩ := H2.out
      refine ⟨oo, oc, srt ks, by rw [HLEN.out]; rfl, HEND.out, by rw [HLEN.out]; exact row_base ho2 (by omega), HB.out.1.trans (hk2.below (by have := HB.out.2; omega) (fun d hd => ?_))⟩
      have := HOW.out d (by simpa using hd)
      omega
    · obtain ⟨hem, hns⟩ := mem_left hen
      obtain ⟨kx, lx, hkx, _⟩ := HK.out en hem
      have hr1 : w1.heap = wr.heap := by rcases hw1 with rfl | rfl <;> rfl
      have hb1 : Below w.heap.size w w1 := by rcases hw1 with rfl | rfl; exact HB.out.1; exact HB.out.1.drew
      have hI1 : w1.heap[w.heap.size]? = some (.mapIter (some m) clock seen clock) := by rw [hr1]; exact HE.out.1
      have hE1 : w1.heap[m]? = some (.map es clock) := by rw [hr1]; exact HE.out.2
      have ho := only_setBlock w1 w.heap.size (.mapIter (some m) clock (seen.push en.born) clock)
      have hI2 := at_setBlock hI1 (.mapIter (some m) clock (seen.push en.born) clock)
      have hE2 : (setBlock w1 w.heap.size (.mapIter (some m) clock (seen.push en.born) clock)).heap[m]? = some (.map es clock) := (ho.block m (by omega)).trans hE1
      have hent := run_entry_at (P := Tryz.prog) _ w.heap.size m clock seen es clock en hI2 hE2 hem hs2
      have hrow2 : (setBlock w1 w.heap.size (.mapIter (some m) clock (seen.push en.born) clock)).ownsRow (w.heap.size + 1) 9 1 (.slice oo ks.length oc) ks.length (ks.map sv) := row_keep HO.out (fun g hg => by
        rw [ho.block g (by have := row_ids HO.out g hg; omega), hr1])
      have hb2 : Below w.heap.size w (setBlock w1 w.heap.size (.mapIter (some m) clock (seen.push en.born) clock)) := hb1.trans (ho.below (Nat.le_refl _))
      have hsz2 : w.heap.size + 1 ≤ (setBlock w1 w.heap.size (.mapIter (some m) clock (seen.push en.born) clock)).heap.size := by rw [ho.size, hr1]; exact HB.out.2
      rw [hkx] at hrun hent
      rw [show sv kx = (Value.string ⟨kx.toArray⟩) from rfl] at hrun hent
      generalize setBlock w1 w.heap.size (.mapIter (some m) clock (seen.push en.born) clock) = W2 at *
      have hlt := left_shrinks es seen en hen
      obtain ⟨kn, hkn⟩ : ∃ kn, ks.length = kn := ⟨_, rfl⟩
      rw [hkn] at hrow2 ⊢
      have hkb : kn ≤ 1000000 := by have := HL.out; omega
      have HR := Lib.hid (And.intro hrow2 (And.intro hb2 hsz2))
      have HH := Lib.hid (And.intro hI2 hE2)
      have HS2 := Lib.hid (HS.out.push HST.out hem hns hkx)
      have HLT := Lib.hid (And.intro hlt (And.intro hsz hkn))
      clear hlt hsz hkn hrow2 hb2 hsz2 hI2 hE2 hkx hns hem hen hr1 hb1 hI1 hE1 ho hw1 HO HS HE HB HL
      go_wp2_with (at_builtin; go_loud (refine wpList_push rfl (.tmp 16) (.tmp 18) 27 rfl (w.heap.size + 1) 9 (.string ⟨#[]⟩) 16 Tryz.underlying27 infoStr rfl (.slice oo kn oc) kn _ rfl HR.out.1 (.string ⟨kx.toArray⟩) _ rfl rfl (by unfold maxLen; omega) (by omega) HR.out.2.2 ?_); intro g1 c1 w3 hg1 hown3 hb3 _; have H3 := Lib.hid (And.intro hown3 hb3); clear hg1 hown3 hb3)
      go_roundg (leftOf es (seen.push en.born)).size
      case measure => have := HLT.out; omega
      case rel =>
        obtain ⟨hown3, hb3⟩ := H3.out
        refine ⟨seen.push en.born, ks ++ [kx], rfl, ⟨(hb3.block _ (by omega)).trans HH.out.1, (hb3.block _ (by omega)).trans HH.out.2⟩, HS2, ?_, HR.out.2.1.trans (hb3.mono (by omega)), Nat.le_trans HR.out.2.2 hb3.size⟩
        show World.ownsRow _ _ _ _ _ _ _
        rw [List.length_append, List.map_append, HLT.out.2.2]
        exact hown3
end Go.Proofs.YtjgdfgpnmmkjfaaGreatDoor

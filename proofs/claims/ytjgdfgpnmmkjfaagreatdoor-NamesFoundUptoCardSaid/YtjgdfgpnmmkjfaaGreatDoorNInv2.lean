/- Deleting, and any act (plain). -/
import Derived.Test.YtjgdfgpnmmkjfaaGreatDoorNInv
namespace Go.Proofs.YtjgdfgpnmmkjfaaGreatDoor
set_option linter.unusedVariables false
set_option linter.unusedSimpArgs false
open Go.RowKit Go.MapKept

theorem pre_iff {s p : Bs} : Lib.hasPrefix s p = true ↔ ∃ t, s = p ++ t := by
  unfold Lib.hasPrefix
  rw [List.isPrefixOf_iff_prefix]
  exact ⟨fun ⟨t, h⟩ => ⟨t, h.symm⟩, fun ⟨t, h⟩ => ⟨t, h.symm⟩⟩
theorem gone_mem {key p : Bs} {ks : List Bs} : p ∈ goneL key ks ↔ (p ∈ ks ∧ inBel key (headB key) p = true) ∨ (key ≠ rootN ∧ p = key) := by
  unfold goneL belowL
  rw [List.mem_append, List.mem_filter]
  by_cases h : key = rootN
  · rw [if_pos h]; simp [h]
  · rw [if_neg h]; simp [h]
theorem root_kept {ks : List Bs} : rootN ∉ goneL rootN ks := fun h => by
  rcases gone_mem.1 h with ⟨_, h⟩ | ⟨h, _⟩
  · unfold inBel at h; simp at h
  · exact h rfl
theorem del_some {S : Bs → Option ND} {key : Bs} {ks : List Bs} (hkey : (S key).isSome = true) (k : Bs) : (delS S key ks k).isSome = true ↔ (S k).isSome = true ∧ k ∉ goneL key ks := by
  unfold delS
  by_cases h : key = rootN
  · subst h
    rw [if_pos rfl, set_some, delAll_at]
    by_cases hk : k = rootN
    · subst hk; simp [hkey, root_kept]
    · by_cases hg : k ∈ goneL rootN ks
      · simp [hk, hg]
      · rw [if_neg hg, set_some]; simp [hk, hg]
  · rw [if_neg h, delAll_at]
    by_cases hg : k ∈ goneL key ks
    · simp [hg]
    · rw [if_neg hg]; simp [hg]
theorem del_val {S : Bs → Option ND} {key : Bs} {ks : List Bs} {k : Bs} {nd : ND} (h : delS S key ks k = some nd) : nd = .new ∨ S k = some nd := by
  unfold delS at h
  split at h
  · unfold setS at h
    split at h
    · cases h; exact .inl rfl
    · rw [delAll_at] at h
      split at h
      · cases h
      · split at h
        · cases h; exact .inl rfl
        · exact .inr h
  · rw [delAll_at] at h
    split at h
    · cases h
    · exact .inr h
theorem ofN_cons (q : Bs) (r : List Bs) : ofN (q :: r) = 58 :: 58 :: (q ++ ofN r) := by simp [ofN]
/-- A path begins with what its heads begin their lower ones with. -/
theorem can_pre {l : List Bs} (hg : ∀ q ∈ l, Gp q) {i : Nat} (hi : i < l.length) : Lib.hasPrefix (canN l) (headB (canN (l.take i))) = true := by
  have hne : l ≠ [] := by intro h; rw [h] at hi; simp at hi
  have hd : l.drop i ≠ [] := by intro h; have := congrArg List.length h; simp at this; omega
  obtain ⟨q, r, hqr⟩ := List.exists_cons_of_ne_nil hd
  rw [pre_iff]
  by_cases ht : l.take i = []
  · rw [ht]
    exact ⟨joinN l, by rw [canN_nil]; rfl⟩
  · have hroot : canN (l.take i) ≠ rootN := fun e => by
      rw [← of_can _ ht] at e
      obtain ⟨a, b, hab⟩ := List.exists_cons_of_ne_nil ht
      rw [hab, ofN_cons] at e
      have hl : (a ++ ofN b).length = 0 := by have := congrArg List.length e; simp [rootN] at this ⊢; omega
      have ha : a ∈ l := List.mem_of_mem_take (by rw [hab]; simp)
      obtain ⟨c, r', hc, _⟩ := (hg a ha).h
      rw [hc] at hl; simp at hl
    refine ⟨q ++ ofN r, ?_⟩
    rw [show headB (canN (l.take i)) = canN (l.take i) ++ rootN from if_neg hroot, ← of_can _ ht, ← of_can _ hne]
    conv => lhs; rw [← List.take_append_drop i l, of_app, hqr, ofN_cons]
    simp [rootN]
theorem head_len_lt {key : Bs} (h : key ≠ rootN) : key.length < (headB key).length := by
  rw [show headB key = key ++ rootN from if_neg h]; simp [rootN]
theorem gone_down {key k : Bs} {ks l : List Bs} {i : Nat} (hc : Cp k l) (hk : k ∈ ks) (hkey : key = rootN ∨ True) (h : canN (l.take i) ∈ goneL key ks) : k ∈ goneL key ks := by
  by_cases hi : i < l.length
  · have hp := can_pre hc.2 hi
    rw [← hc.1] at hp
    obtain ⟨t, ht⟩ := pre_iff.1 hp
    have hru : ∃ t', k = canN (l.take i) ++ t' := by
      by_cases hr : canN (l.take i) = rootN
      · rw [show headB (canN (l.take i)) = rootN from if_pos hr] at ht; exact ⟨t, by rw [hr]; exact ht⟩
      · rw [show headB (canN (l.take i)) = canN (l.take i) ++ rootN from if_neg hr] at ht; exact ⟨rootN ++ t, by rw [← List.append_assoc]; exact ht⟩
    have hne : k ≠ canN (l.take i) := fun e => by
      have := cp_inj hc (e ▸ cp_take hc i)
      have := congrArg List.length this
      simp at this; omega
    rcases gone_mem.1 h with ⟨_, hin⟩ | ⟨hkr, hu⟩
    · unfold inBel at hin
      rw [Bool.and_eq_true] at hin
      obtain ⟨t1, ht1⟩ := pre_iff.1 hin.2
      obtain ⟨t2, ht2⟩ := hru
      refine gone_mem.2 (.inl ⟨hk, ?_⟩)
      unfold inBel
      rw [Bool.and_eq_true]
      refine ⟨?_, pre_iff.2 ⟨t1 ++ t2, by rw [← List.append_assoc, ← ht1]; exact ht2⟩⟩
      have hkk : k ≠ key := fun e => by
        by_cases hr : key = rootN
        · have h0 := cp_inj (k := k) hc (by rw [e, hr]; exact cp_root)
          rw [h0] at hi; simp at hi
        · have h1 := head_len_lt hr
          have h2 := congrArg List.length ht1
          have h3 := congrArg List.length ht2
          rw [e] at h3
          simp at h2 h3; omega
      simp [hkk]
    · refine gone_mem.2 (.inl ⟨hk, ?_⟩)
      unfold inBel
      rw [Bool.and_eq_true]
      rw [hu] at hne hp
      exact ⟨by simp [hne], hp⟩
  · rw [List.take_of_length_le (by omega), ← hc.1] at h
    exact h
theorem gd_del {S : Bs → Option ND} {n : Nat} (h : Gd S n) {key : Bs} {ks : List Bs} (hks : KeysOf S ks) (hkey : (S key).isSome = true) : Gd (delS S key ks) n := by
  have hsub : ∀ k, (delS S key ks k).isSome = true → (S k).isSome = true := fun k hk => ((del_some hkey k).1 hk).1
  refine ⟨cnt_sub h.cnt hsub, fun k hk => ?_, fun k nd hk => ?_, fun k nd hk => ?_, ?_⟩
  · obtain ⟨h1, h2⟩ := (del_some hkey k).1 hk
    obtain ⟨l, hc, h3, h4⟩ := h.key k h1
    exact ⟨l, hc, h3, fun i => (del_some hkey _).2 ⟨h4 i, fun hg => h2 (gone_down hc ((hks.mem k).2 h1) (.inr trivial) hg)⟩⟩
  · rcases del_val hk with rfl | hk
    · simp [ND.new]
    · exact h.exp k nd hk
  · rcases del_val hk with rfl | hk
    · simp [ND.new]
    · exact h.srch k nd hk
  · refine (del_some hkey _).2 ⟨h.root, fun hg => ?_⟩
    by_cases hr : key = rootN
    · subst hr; exact root_kept hg
    · rcases gone_mem.1 hg with ⟨_, hin⟩ | ⟨_, e⟩
      · unfold inBel at hin
        rw [Bool.and_eq_true] at hin
        obtain ⟨t0, ht0⟩ := pre_iff.1 hin.2
        have h1 := congrArg List.length ht0
        rw [List.length_append] at h1
        have h2 := head_len_lt hr
        obtain ⟨l, hc, _⟩ := h.key key hkey
        have h3 : 2 ≤ key.length := by rw [hc.1]; simp [canN]
        simp [rootN] at h1; omega
      · exact hr e.symm
theorem gd_play {S S' : Bs → Option ND} {n : Nat} (h : Gd S n) {a : AN} (ha : a.sum ≤ 1500) (hp : PlayR S a S') : Gd S' (n + 5 * a.sum) := by
  have hs : a.sum = a.s.length + a.t.length + 1 + longS a.L := rfl
  have hL := longS_len a.L
  unfold PlayR at hp
  split at hp
  · subst hp; exact (gd_make h a.s (by omega)).mono (by omega)
  · split at hp
    · rcases hp with ⟨_, rfl⟩ | ⟨ks, hks, hkey, rfl⟩
      · exact h.mono (by omega)
      · exact (gd_del h hks hkey).mono (by omega)
    · split at hp
      · subst hp
        unfold srchS
        cases hk : S (canonN rootN a.s) with
        | none => exact h.mono (by omega)
        | some nd =>
          simp only
          split
          · refine h.told (by omega) hk (by have := h.exp _ nd hk; simp only; omega) ⟨by simp only [List.length_map]; omega, fun p hp => ?_⟩
            obtain ⟨q, hq, rfl⟩ := List.mem_map.1 hp
            have h1 := canon_len3 q
            have h2 := longS_mem hq
            exact ⟨by omega, _, canon_cp q⟩
          · exact h.mono (by omega)
      · split at hp
        · subst hp
          unfold expS
          cases hk : S (canonN rootN a.s) with
          | none => exact h.mono (by omega)
          | some nd =>
            have h1 := exp_len a.L (ex0 nd a.cl)
            have h2 := h.exp _ nd hk
            have h3 : (ex0 nd a.cl).length ≤ nd.exports.length := by unfold ex0; split <;> simp
            exact h.told (by omega) hk (by simp only; omega) ⟨by have := (h.srch _ nd hk).1; simp only; omega, (h.srch _ nd hk).2⟩
        · split at hp
          · subst hp
            unfold unkS
            cases hk : S (canonN rootN a.s) with
            | none => exact h.mono (by omega)
            | some nd => exact h.told (by omega) hk (by have := h.exp _ nd hk; simp only; omega) ⟨by have := (h.srch _ nd hk).1; simp only; omega, (h.srch _ nd hk).2⟩
          · subst hp; exact h.mono (by omega)
/-- A path that is there with its heads: 'Make' changes nothing. -/
theorem mkS_same {S : Bs → Option ND} {ps : List Bs} (h : ∀ i, (S (canN (ps.take i))).isSome = true) : ∀ j, mkS S ps j = S
  | 0 => rfl
  | j + 1 => by
    rw [mkS_succ, mkS_same h j]
    unfold put1
    have := h j
    cases hx : S (canN (ps.take j)) with
    | none => rw [hx] at this; cases this
    | some x => rfl
theorem make_same {S : Bs → Option ND} {n : Nat} (h : Gd S n) {p : Bs} (hp : (S p).isSome = true) : makeS S p = S := by
  obtain ⟨l, hc, _, h3⟩ := h.key p hp
  unfold makeS
  rw [hc.1, parts_can l hc.2]
  exact mkS_same h3 _
theorem filter_count (p : Bs → Bool) : ∀ l : List Bs, (l.filter p).length + (l.filter fun x => !p x).length = l.length
  | [] => rfl
  | x :: r => by
    have ih := filter_count p r
    by_cases h : p x = true
    · rw [List.filter_cons_of_pos h, List.filter_cons_of_neg (by simp [h])]; simp only [List.length_cons]; omega
    · rw [List.filter_cons_of_neg h, List.filter_cons_of_pos (by simpa using h)]; simp only [List.length_cons]; omega
/-- What is left and what is gone. -/
theorem del_count {S : Bs → Option ND} {n : Nat} (h : Gd S n) {key : Bs} {ks ks' : List Bs} (hks : KeysOf S ks) (hkey : (S key).isSome = true) (hks' : KeysOf (delS S key ks) ks') : ks'.length + (goneL key ks).length = ks.length := by
  have hgn : (goneL key ks).Nodup := by
    unfold goneL belowL
    by_cases hr : key = rootN
    · rw [if_pos hr, List.append_nil]; exact hks.nodup.filter _
    · rw [if_neg hr]
      refine List.nodup_append.2 ⟨hks.nodup.filter _, by simp, fun a ha b hb => ?_⟩
      simp at hb; subst hb
      rintro rfl
      have := (List.mem_filter.1 ha).2
      unfold inBel at this; simp at this
  have hgs : ∀ p ∈ goneL key ks, p ∈ ks := fun p hp => by
    rcases gone_mem.1 hp with ⟨h1, _⟩ | ⟨_, rfl⟩
    · exact h1
    · exact (hks.mem _).2 hkey
  have h1 : ks'.Perm (ks.filter fun p => decide (p ∉ goneL key ks)) := (List.perm_ext_iff_of_nodup hks'.nodup (hks.nodup.filter _)).2 fun p => by
    rw [hks'.mem p, del_some hkey p, List.mem_filter, hks.mem p]; simp
  have h2 : (goneL key ks).Perm (ks.filter fun p => !decide (p ∉ goneL key ks)) := (List.perm_ext_iff_of_nodup hgn (hks.nodup.filter _)).2 fun p => by
    rw [List.mem_filter]
    constructor
    · intro hp; exact ⟨hgs p hp, by simp [hp]⟩
    · intro hp; simpa using hp.2
  rw [h1.length_eq, h2.length_eq]
  exact filter_count _ ks
end Go.Proofs.YtjgdfgpnmmkjfaaGreatDoor

/- What every tree made by acts keeps (plain). -/
import Derived.Test.YtjgdfgpnmmkjfaaGreatDoorNPlay2
namespace Go.Proofs.YtjgdfgpnmmkjfaaGreatDoor
set_option linter.unusedVariables false
set_option linter.unusedSimpArgs false
open Go.RowKit Go.MapKept

/-- A canonical path of parts l. -/
def Cp (k : Bs) (l : List Bs) : Prop := k = canN l ∧ ∀ q ∈ l, Gp q
theorem canon_cp (path : Bs) : Cp (canonN rootN path) (partsN path) := ⟨canon_root path, parts_good path⟩
theorem cp_take {k : Bs} {l : List Bs} (h : Cp k l) (i : Nat) : Cp (canN (l.take i)) (l.take i) := ⟨rfl, fun q hq => h.2 q (List.mem_of_mem_take hq)⟩
theorem cp_inj {k : Bs} {l m : List Bs} (h : Cp k l) (h' : Cp k m) : l = m := by
  have e : canN l = canN m := by rw [← h.1, ← h'.1]
  rw [← parts_can l h.2, ← parts_can m h'.2, e]
theorem cp_self {k : Bs} {l : List Bs} (h : Cp k l) : canonN rootN k = k := by rw [h.1]; exact can_id l h.2
theorem cp_root : Cp rootN [] := ⟨rfl, by simp⟩
theorem canN_nil : canN [] = rootN := rfl
/-- What the trees of the statements are. -/
structure Gd (S : Bs → Option ND) (n : Nat) : Prop where
  cnt : Cnt S n
  key : ∀ k, (S k).isSome = true → ∃ l, Cp k l ∧ k.length ≤ 10000 ∧ ∀ i, (S (canN (l.take i))).isSome = true
  exp : ∀ k nd, S k = some nd → nd.exports.length ≤ n
  srch : ∀ k nd, S k = some nd → nd.search.length ≤ n ∧ ∀ p ∈ nd.search, p.length ≤ 10000 ∧ ∃ l, Cp p l
  root : (S rootN).isSome = true
theorem Gd.fit {S : Bs → Option ND} {n : Nat} (h : Gd S n) (hn : n ≤ 100000) (a : AN) (ha : a.sum ≤ 1500) : Fit S a := by
  unfold AN.sum at ha
  have hl := longS_len a.L
  refine ⟨by omega, fun p hp => by have := longS_mem hp; omega, by omega, fun ks h1 h2 => Nat.le_trans (h.cnt ks h1 h2) hn, fun k hk => ?_, fun k nd hk => Nat.le_trans (h.exp k nd hk) hn⟩
  obtain ⟨l, _, h2, _⟩ := h.key k hk
  omega
theorem cnt_mono {S : Bs → Option ND} {n m : Nat} (h : Cnt S n) (hnm : n ≤ m) : Cnt S m := fun ks h1 h2 => Nat.le_trans (h ks h1 h2) hnm
theorem cnt_sub {S S' : Bs → Option ND} {n : Nat} (h : Cnt S n) (hs : ∀ k, (S' k).isSome = true → (S k).isSome = true) : Cnt S' n := fun ks h1 h2 => h ks h1 (fun k hk => hs k (h2 k hk))
theorem cnt_put {S : Bs → Option ND} {n : Nat} (h : Cnt S n) (k : Bs) (nd : ND) : Cnt (setS S k nd) (n + 1) := fun ks h1 h2 => by
  have hnd : (ks.erase k).Nodup := h1.erase k
  have := h (ks.erase k) hnd (fun q hq => by
    have hm := (h1.mem_erase_iff.1 hq)
    have := h2 q hm.2
    unfold setS at this
    rwa [if_neg hm.1] at this)
  have hl : ks.length ≤ (ks.erase k).length + 1 := by
    rw [List.length_erase]; split <;> omega
  omega
theorem set_some {S : Bs → Option ND} {k q : Bs} {nd : ND} : (setS S k nd q).isSome = true ↔ q = k ∨ (S q).isSome = true := by
  unfold setS
  by_cases h : q = k
  · simp [h]
  · simp [h]
/-- A node told anew keeps it. -/
theorem Gd.told {S : Bs → Option ND} {n m : Nat} (h : Gd S n) (hnm : n ≤ m) {k : Bs} {nd nd' : ND} (hk : S k = some nd) (he : nd'.exports.length ≤ m) (hs : nd'.search.length ≤ m ∧ ∀ p ∈ nd'.search, p.length ≤ 10000 ∧ ∃ l, Cp p l) : Gd (setS S k nd') m := by
  have hks : (S k).isSome = true := by rw [hk]; rfl
  have hsub : ∀ q, (setS S k nd' q).isSome = true → (S q).isSome = true := fun q hq => by
    rcases set_some.1 hq with rfl | hq
    · exact hks
    · exact hq
  have hsup : ∀ q, (S q).isSome = true → (setS S k nd' q).isSome = true := fun q hq => set_some.2 (.inr hq)
  refine ⟨cnt_mono (cnt_sub h.cnt hsub) hnm, fun q hq => ?_, fun q x hx => ?_, fun q x hx => ?_, hsup _ h.root⟩
  · obtain ⟨l, h1, h2, h3⟩ := h.key q (hsub q hq)
    exact ⟨l, h1, h2, fun i => hsup _ (h3 i)⟩
  · unfold setS at hx
    by_cases hqk : q = k
    · rw [if_pos hqk] at hx; cases hx; exact he
    · rw [if_neg hqk] at hx; exact Nat.le_trans (h.exp q x hx) hnm
  · unfold setS at hx
    by_cases hqk : q = k
    · rw [if_pos hqk] at hx; cases hx; exact hs
    · rw [if_neg hqk] at hx
      exact ⟨Nat.le_trans (h.srch q x hx).1 hnm, (h.srch q x hx).2⟩
theorem Gd.mono {S : Bs → Option ND} {n m : Nat} (h : Gd S n) (hnm : n ≤ m) : Gd S m :=
  ⟨cnt_mono h.cnt hnm, h.key, fun k nd hk => Nat.le_trans (h.exp k nd hk) hnm, fun k nd hk => ⟨Nat.le_trans (h.srch k nd hk).1 hnm, (h.srch k nd hk).2⟩, h.root⟩
theorem gd_new : Gd newS 1 := by
  have hk : ∀ k, (newS k).isSome = true → k = rootN := fun k hk => by
    unfold newS at hk
    by_cases h : k = rootN
    · exact h
    · rw [if_neg h] at hk; cases hk
  refine ⟨fun ks h1 h2 => ?_, fun k hk' => ?_, fun k nd hx => ?_, fun k nd hx => ?_, by simp [newS]⟩
  · have hall : ∀ q ∈ ks, q = rootN := fun q hq => hk q (h2 q hq)
    match ks, h1, hall with
    | [], _, _ => simp
    | [a], _, _ => simp
    | a :: b :: r, h1, hall =>
      have ha := hall a (by simp)
      have hb := hall b (by simp)
      rw [List.nodup_cons] at h1
      exact absurd (by rw [ha, hb]; simp) h1.1
  · obtain rfl := hk k hk'
    exact ⟨[], cp_root, by decide, fun i => by simp [canN_nil, newS]⟩
  · rw [new_exp hx]; omega
  · unfold newS at hx
    by_cases h : k = rootN
    · rw [if_pos h] at hx; cases hx; simp [ND.new]
    · rw [if_neg h] at hx; cases hx
theorem put1_some {S : Bs → Option ND} {k q : Bs} : (put1 S k q).isSome = true ↔ q = k ∨ (S q).isSome = true := by
  unfold put1
  cases hk : S k with
  | none => simp only [Option.isNone_none, if_true]; exact set_some
  | some x =>
    simp only [Option.isNone_some, Bool.false_eq_true, if_false]
    constructor
    · exact .inr
    · rintro (rfl | h)
      · rw [hk]; rfl
      · exact h
theorem mkS_some {S : Bs → Option ND} {ps : List Bs} : ∀ {j : Nat} {q : Bs}, (mkS S ps j q).isSome = true ↔ (∃ i, i < j ∧ q = canN (ps.take i)) ∨ (S q).isSome = true
  | 0, q => by simp [mkS_zero]
  | j + 1, q => by
    rw [mkS_succ, put1_some, mkS_some]
    constructor
    · rintro (h | ⟨i, hi, h⟩ | h)
      · exact .inl ⟨j, by omega, h⟩
      · exact .inl ⟨i, by omega, h⟩
      · exact .inr h
    · rintro (⟨i, hi, h⟩ | h)
      · by_cases hij : i = j
        · subst hij; exact .inl h
        · exact .inr (.inl ⟨i, by omega, h⟩)
      · exact .inr (.inr h)
theorem mkS_val {S : Bs → Option ND} {ps : List Bs} : ∀ {j : Nat} {q : Bs} {nd : ND}, mkS S ps j q = some nd → nd = .new ∨ S q = some nd
  | 0, q, nd, h => .inr h
  | j + 1, q, nd, h => by
    rw [mkS_succ] at h
    unfold put1 at h
    split at h
    · unfold setS at h
      split at h
      · cases h; exact .inl rfl
      · exact mkS_val h
    · exact mkS_val h
theorem mkS_cnt {S : Bs → Option ND} {ps : List Bs} {n : Nat} (h : Cnt S n) : ∀ j, Cnt (mkS S ps j) (n + j)
  | 0 => h
  | j + 1 => by
    rw [mkS_succ]
    unfold put1
    split
    · exact cnt_put (mkS_cnt h j) _ _
    · exact cnt_mono (mkS_cnt h j) (by omega)
theorem gd_make {S : Bs → Option ND} {n : Nat} (h : Gd S n) (path : Bs) (hp : path.length ≤ 1500) : Gd (makeS S path) (n + 5 * (path.length + 1)) := by
  have hw := parts_w path
  have hl := len_w (partsN path)
  unfold makeS
  refine ⟨cnt_mono (mkS_cnt h.cnt _) (by omega), fun k hk => ?_, fun k nd hk => ?_, fun k nd hk => ?_, mkS_some.2 (.inr h.root)⟩
  · rcases mkS_some.1 hk with ⟨i, hi, rfl⟩ | hk
    · refine ⟨(partsN path).take i, cp_take (canon_cp path) i, ?_, fun j => mkS_some.2 (.inl ⟨min j i, by omega, by rw [List.take_take]⟩)⟩
      have h1 := can_len ((partsN path).take i)
      have h2 := wN_take_le (partsN path) i
      omega
    · obtain ⟨l, h1, h2, h3⟩ := h.key k hk
      exact ⟨l, h1, h2, fun i => mkS_some.2 (.inr (h3 i))⟩
  · rcases mkS_val hk with rfl | hk
    · simp [ND.new]
    · have := h.exp k nd hk; omega
  · rcases mkS_val hk with rfl | hk
    · simp [ND.new]
    · have := h.srch k nd hk
      exact ⟨by omega, this.2⟩
end Go.Proofs.YtjgdfgpnmmkjfaaGreatDoor

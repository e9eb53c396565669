/- Plain functions for Trim, Unescape and Unescaped, and their laws. No program in sight. -/
import Derived.Test.YteojlmpipfajoaaGreatDoorPlain
namespace Go.Proofs.YteojlmpipfajoaaGreatDoor
set_option linter.unusedVariables false
set_option linter.unusedSimpArgs false

def inB (cs : Bs) (c : UInt8) : Bool := cs.any fun x => (x.toNat : Int) == c.toNat

def trimL (cs s : Bs) : Bs := s.dropWhile (inB cs)
def trimR (cs s : Bs) : Bs := (s.reverse.dropWhile (inB cs)).reverse
def trimC (cs s : Bs) (l r : Bool) : Bs := if r then trimR cs (if l then trimL cs s else s) else (if l then trimL cs s else s)

theorem trimL_in {cs s : Bs} {k : Nat} (h : k < s.length) (hc : inB cs s[k] = true) : trimL cs (s.drop k) = trimL cs (s.drop (k + 1)) := by
  rw [List.drop_eq_getElem_cons h, trimL, List.dropWhile_cons, if_pos hc]; rfl
theorem trimL_out {cs s : Bs} {k : Nat} (h : k < s.length) (hc : inB cs s[k] = false) : trimL cs (s.drop k) = s.drop k := by
  rw [List.drop_eq_getElem_cons h, trimL, List.dropWhile_cons, if_neg (by simp [hc])]
theorem trimR_in {cs s : Bs} {k : Nat} (h : k < s.length) (hc : inB cs s[k] = true) : trimR cs (s.take (k + 1)) = trimR cs (s.take k) := by
  rw [List.take_succ_eq_append_getElem h, trimR, List.reverse_append]
  simp only [List.reverse_cons, List.reverse_nil, List.nil_append, List.singleton_append, List.dropWhile_cons, hc, if_true]
  rfl
theorem trimR_out {cs s : Bs} {k : Nat} (h : k < s.length) (hc : inB cs s[k] = false) : trimR cs (s.take (k + 1)) = s.take (k + 1) := by
  rw [List.take_succ_eq_append_getElem h, trimR, List.reverse_append]
  simp only [List.reverse_cons, List.reverse_nil, List.nil_append, List.singleton_append, List.dropWhile_cons, hc]
  simp

def digI (c : Int) : Int := if 48 ≤ lowI c ∧ lowI c ≤ 57 then lowI c - 48 else if 97 ≤ lowI c ∧ lowI c ≤ 102 then lowI c - 87 else 16
theorem digI_nn (c : Int) : 0 ≤ digI c := by unfold digI; split <;> try split
                                             all_goals omega
theorem digI_le (c : Int) : digI c ≤ 16 := by unfold digI; split <;> try split
                                              all_goals omega
/-- The value and the number of the first digits, at most so many, and what was there already. -/
def digF (base : Int) : Nat → Bs → Int → Int × Nat
  | 0, _, v => (v, 0)
  | _ + 1, [], v => (v, 0)
  | m + 1, c :: t, v => if digI c.toNat < base then ((digF base m t (v * base + digI c.toNat)).1, (digF base m t (v * base + digI c.toNat)).2 + 1) else (v, 0)

theorem digF_le (base : Int) : ∀ (m : Nat) (s : Bs) (v : Int), (digF base m s v).2 ≤ m ∧ (digF base m s v).2 ≤ s.length
  | 0, _, _ => ⟨Nat.le_refl _, Nat.zero_le _⟩
  | m + 1, [], _ => ⟨Nat.zero_le _, Nat.zero_le _⟩
  | m + 1, c :: t, v => by
    unfold digF
    split
    · have := digF_le base m t (v * base + digI c.toNat)
      exact ⟨by simp only; omega, by simp only [List.length_cons]; omega⟩
    · exact ⟨Nat.zero_le _, Nat.zero_le _⟩
theorem digF_end (base : Int) {m : Nat} {s : Bs} {k : Nat} (v : Int) (h : m = 0 ∨ s.length ≤ k) : digF base m (s.drop k) v = (v, 0) := by
  rcases h with rfl | h
  · rfl
  · rw [List.drop_eq_nil_of_le h]; cases m <;> rfl
theorem digF_out (base : Int) {m : Nat} {s : Bs} {k : Nat} (v : Int) (h : k < s.length) (hd : ¬ digI s[k].toNat < base) : digF base m (s.drop k) v = (v, 0) := by
  cases m with
  | zero => rfl
  | succ m => rw [List.drop_eq_getElem_cons h, digF, if_neg hd]
theorem digF_in (base : Int) {m : Nat} {s : Bs} {k : Nat} (v : Int) (h : k < s.length) (hd : digI s[k].toNat < base) : digF base (m + 1) (s.drop k) v = ((digF base m (s.drop (k + 1)) (v * base + digI s[k].toNat)).1, (digF base m (s.drop (k + 1)) (v * base + digI s[k].toNat)).2 + 1) := by
  rw [List.drop_eq_getElem_cons h, digF, if_pos hd]

def byteI (v : Int) : UInt8 := UInt8.ofNat v.toNat
theorem byteI_toNat (v : Int) (h : 0 ≤ v) : ((byteI v).toNat : Int) = v % 256 := by
  rw [byteI, UInt8.toNat_ofNat']; omega

/-- What a letter behind a backslash is. -/
def escI (d : Int) : Int := if d = 97 then 0 else if d = 98 then 1 else if d = 116 then 2 else if d = 110 then 3 else if d = 118 then 4 else if d = 102 then 5 else if d = 114 then 6 else -1
theorem escI_nn (d : Int) : -1 ≤ escI d ∧ escI d ≤ 6 := by unfold escI; repeat' split
                                                           all_goals omega
def isBl (c : UInt8) : Bool := (c.toNat : Int) == 32 || (c.toNat : Int) == 9

def unesc1 (d : UInt8) (s : Bs) : Bs × Nat :=
  if (0 : Int) ≤ escI (d.toNat : Int) then ([byteI ((7 : Int) + escI (d.toNat : Int))], 2)
  else if d.toNat = 120 ∧ 0 < (digF 16 2 (s.drop 2) 0).2 then ([byteI (digF 16 2 (s.drop 2) 0).1], 2 + (digF 16 2 (s.drop 2) 0).2)
  else if 0 < (digF 8 3 (s.drop 1) 0).2 then ([byteI (digF 8 3 (s.drop 1) 0).1], 1 + (digF 8 3 (s.drop 1) 0).2)
  else if d.toNat = 10 then ([32], 2 + ((s.drop 2).takeWhile isBl).length)
  else ([d], 2)
/-- 'Unescape'. -/
def unesc (s : Bs) : Bs × Nat :=
  if h : 1 < s.length then (if s[0].toNat = 92 then unesc1 s[1] s else ([], 0))
  else if s = [92] then (s, 1) else ([], 0)

theorem takeWhile_le (p : UInt8 → Bool) : ∀ (l : Bs), (l.takeWhile p).length ≤ l.length
  | [] => Nat.le_refl _
  | c :: t => by
    rw [List.takeWhile_cons]
    split
    · simpa using takeWhile_le p t
    · simp

theorem unesc_len (s : Bs) : (unesc s).1.length ≤ 1 ∧ (unesc s).1.length ≤ (unesc s).2 ∧ (unesc s).2 ≤ s.length := by
  unfold unesc
  split
  · rename_i h
    split
    · have h1 := digF_le 16 2 (s.drop 2) 0
      have h2 := digF_le 8 3 (s.drop 1) 0
      have h3 := takeWhile_le isBl (s.drop 2)
      simp only [List.length_drop] at h1 h2 h3
      unfold unesc1
      repeat' split
      all_goals simp only [List.length_cons, List.length_nil]
      all_goals omega
    · exact ⟨by simp, by simp, Nat.zero_le _⟩
  · split
    · rename_i h; subst h; exact ⟨by simp, by simp, by simp⟩
    · exact ⟨by simp, by simp, Nat.zero_le _⟩

def unescF : Nat → Bs → Bs
  | 0, _ => []
  | n + 1, s => if s = [] then [] else if (unesc s).2 = 0 then s.take 1 ++ unescF n (s.drop 1) else (unesc s).1 ++ unescF n (s.drop (unesc s).2)
/-- 'Unescaped'. -/
def unescAll (s : Bs) : Bs := unescF s.length s

theorem unescF_fuel : ∀ (n m : Nat) (s : Bs), s.length ≤ n → s.length ≤ m → unescF n s = unescF m s := by
  intro n
  induction n with
  | zero => intro m s h _; have : s = [] := List.length_eq_zero_iff.1 (by omega); subst this; cases m <;> simp [unescF]
  | succ n ih =>
    intro m s h1 h2
    cases m with
    | zero => have : s = [] := List.length_eq_zero_iff.1 (by omega); subst this; simp [unescF]
    | succ m =>
      simp only [unescF]
      by_cases he : s = []
      · rw [if_pos he, if_pos he]
      · have hl : 0 < s.length := List.length_pos_iff.2 he
        rw [if_neg he, if_neg he]
        by_cases h0 : (unesc s).2 = 0
        · rw [if_pos h0, if_pos h0, ih m (s.drop 1) (by simp; omega) (by simp; omega)]
        · rw [if_neg h0, if_neg h0, ih m (s.drop (unesc s).2) (by simp; omega) (by simp; omega)]

theorem unescAll_nil : unescAll [] = [] := rfl
theorem unescAll_zero {s : Bs} (h : s ≠ []) (h0 : (unesc s).2 = 0) : unescAll s = s.take 1 ++ unescAll (s.drop 1) := by
  have hl : 0 < s.length := List.length_pos_iff.2 h
  obtain ⟨n, hn⟩ : ∃ n, s.length = n + 1 := ⟨s.length - 1, by omega⟩
  rw [unescAll, hn, unescF, if_neg h, if_pos h0, unescAll, unescF_fuel n (s.drop 1).length _ (by simp; omega) (Nat.le_refl _)]
theorem unescAll_some {s : Bs} (h : s ≠ []) (h0 : (unesc s).2 ≠ 0) : unescAll s = (unesc s).1 ++ unescAll (s.drop (unesc s).2) := by
  have hl : 0 < s.length := List.length_pos_iff.2 h
  obtain ⟨n, hn⟩ : ∃ n, s.length = n + 1 := ⟨s.length - 1, by omega⟩
  rw [unescAll, hn, unescF, if_neg h, if_neg h0, unescAll, unescF_fuel n (s.drop (unesc s).2).length _ (by simp; omega) (Nat.le_refl _)]
end Go.Proofs.YteojlmpipfajoaaGreatDoor

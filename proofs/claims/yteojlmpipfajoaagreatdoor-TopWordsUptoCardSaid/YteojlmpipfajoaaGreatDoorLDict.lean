/- Dictionaries as lists of pairs: plain laws (layer 4). No program in sight. -/
import Derived.Test.YteojlmpipfajoaaGreatDoorLLaw
namespace Go.Proofs.YteojlmpipfajoaaGreatDoor
set_option linter.unusedVariables false
set_option linter.unusedSimpArgs false

abbrev Prs := List (Bs × Bs)
def setP : Prs → Bs → Bs → Prs
  | [], k, v => [(k, v)]
  | p :: r, k, v => if p.1 = k then (k, v) :: r else p :: setP r k v
def getP : Prs → Bs → Option Bs
  | [], _ => none
  | p :: r, k => if p.1 = k then some p.2 else getP r k
def addP (a b : Prs) : Prs := b.foldl (fun acc p => setP acc p.1 p.2) a
def pairsOf : List Bs → Prs
  | k :: v :: r => (k, v) :: pairsOf r
  | _ => []
def flatP : Prs → List Bs
  | [] => []
  | p :: r => p.1 :: p.2 :: flatP r
def keysP (a : Prs) : List Bs := a.map (·.1)
/-- A dictionary that is read. -/
def readC (s : Bs) : Option Prs := (splitL s).bind fun l => if l.length % 2 = 0 then some (addP [] (pairsOf l)) else none
def Uniq (a : Prs) : Prop := (keysP a).Nodup

theorem flatP_append (a b : Prs) : flatP (a ++ b) = flatP a ++ flatP b := by
  induction a with
  | nil => rfl
  | cons p a ih => simp [flatP, ih]
theorem flatP_len (a : Prs) : (flatP a).length = 2 * a.length := by
  induction a with
  | nil => rfl
  | cons p a ih => simp only [flatP, List.length_cons, ih]; omega
theorem pairs_flat (a : Prs) : pairsOf (flatP a) = a := by
  induction a with
  | nil => rfl
  | cons p a ih => simp [flatP, pairsOf, ih]
theorem pairs_wt : ∀ (n : Nat) (l : List Bs), l.length ≤ n → wt (flatP (pairsOf l)) ≤ wt l := by
  intro n
  induction n with
  | zero =>
    intro l h
    obtain rfl : l = [] := List.length_eq_zero_iff.1 (by omega)
    simp [pairsOf, flatP]
  | succ n ih =>
    intro l h
    match l with
    | [] => simp [pairsOf, flatP]
    | [x] => simp [pairsOf, flatP, wt]
    | k :: v :: r =>
      have := ih r (by simp at h; omega)
      simp only [pairsOf, flatP, wt]; omega
theorem set_new {a : Prs} {k : Bs} (h : k ∉ keysP a) (v : Bs) : setP a k v = a ++ [(k, v)] := by
  induction a with
  | nil => rfl
  | cons p a ih =>
    simp only [keysP, List.map_cons, List.mem_cons, not_or] at h
    rw [setP, if_neg (fun e => h.1 e.symm), ih h.2]
    rfl
theorem set_keys (a : Prs) (k v : Bs) : keysP (setP a k v) = if k ∈ keysP a then keysP a else keysP a ++ [k] := by
  induction a with
  | nil => rfl
  | cons p a ih =>
    rw [setP]
    by_cases e : p.1 = k
    · rw [if_pos e, if_pos (by simp [keysP, e])]
      simp [keysP, e]
    · rw [if_neg e]
      show p.1 :: keysP (setP a k v) = _
      rw [ih]
      have hk : keysP (p :: a) = p.1 :: keysP a := rfl
      rw [hk]
      by_cases h : k ∈ keysP a
      · rw [if_pos h, if_pos (List.mem_cons_of_mem _ h)]
      · rw [if_neg h, if_neg (by simp only [List.mem_cons, not_or]; exact ⟨fun e' => e e'.symm, h⟩)]; rfl
theorem set_uniq {a : Prs} (h : Uniq a) (k v : Bs) : Uniq (setP a k v) := by
  unfold Uniq
  rw [set_keys]
  split
  · exact h
  · rename_i hk
    rw [List.nodup_append]
    exact ⟨h, by simp, fun x hx y hy => by simp at hy; subst hy; exact fun e => hk (e ▸ hx)⟩
theorem set_wt (a : Prs) (k v : Bs) : wt (flatP (setP a k v)) ≤ wt (flatP a) + wt [k, v] := by
  induction a with
  | nil => simp [setP, flatP, wt]
  | cons p a ih =>
    rw [setP]
    split
    · rename_i e; subst e; simp only [flatP, wt]; omega
    · simp only [flatP, wt] at ih ⊢; omega
theorem set_len (a : Prs) (k v : Bs) : a.length ≤ (setP a k v).length ∧ (setP a k v).length ≤ a.length + 1 := by
  induction a with
  | nil => simp [setP]
  | cons p a ih =>
    rw [setP]
    split
    · simp
    · simp only [List.length_cons]; omega
theorem add_nil (a : Prs) : addP a [] = a := rfl
theorem add_cons (a : Prs) (p : Bs × Bs) (b : Prs) : addP a (p :: b) = addP (setP a p.1 p.2) b := rfl
theorem add_snoc (a b : Prs) (p : Bs × Bs) : addP a (b ++ [p]) = setP (addP a b) p.1 p.2 := by simp [addP]
theorem add_uniq {a : Prs} (h : Uniq a) (b : Prs) : Uniq (addP a b) := by
  induction b generalizing a with
  | nil => exact h
  | cons p b ih => exact ih (set_uniq h p.1 p.2)
theorem add_wt (a b : Prs) : wt (flatP (addP a b)) ≤ wt (flatP a) + wt (flatP b) := by
  induction b generalizing a with
  | nil => simp [add_nil, flatP, wt]
  | cons p b ih =>
    have h1 := ih (setP a p.1 p.2)
    have h2 := set_wt a p.1 p.2
    rw [add_cons]
    simp only [flatP, wt] at h2 ⊢
    omega
theorem uniq_nil : Uniq [] := by unfold Uniq keysP; simp
theorem read_uniq {s : Bs} {a : Prs} (h : readC s = some a) : Uniq a := by
  unfold readC at h
  cases hl : splitL s with
  | none => rw [hl] at h; cases h
  | some l =>
    rw [hl, Option.bind_some] at h
    split at h
    · cases h; exact add_uniq uniq_nil _
    · cases h
theorem read_wt {s : Bs} {a : Prs} (h : readC s = some a) : wt (flatP a) ≤ 5 * s.length := by
  unfold readC at h
  cases hl : splitL s with
  | none => rw [hl] at h; cases h
  | some l =>
    rw [hl, Option.bind_some] at h
    have h1 := split_wt s.length s (Nat.le_refl _) l hl
    split at h
    · cases h
      have h2 := add_wt [] (pairsOf l)
      have h3 := pairs_wt l.length l (Nat.le_refl _)
      simp only [flatP, wt] at h2
      omega
    · cases h
/-- What has other keys lies behind. -/
theorem add_apart : ∀ (b a : Prs), Uniq b → (∀ k ∈ keysP b, k ∉ keysP a) → addP a b = a ++ b := by
  intro b
  induction b with
  | nil => intro a _ _; simp [add_nil]
  | cons p b ih =>
    intro a hu h
    have hk : p.1 ∉ keysP a := h _ (by simp [keysP])
    have hu' : p.1 ∉ keysP b ∧ Uniq b := by unfold Uniq keysP at *; simpa using hu
    rw [add_cons, set_new hk, ih _ hu'.2 ?_]
    · simp
    · intro k hb
      simp only [keysP, List.map_append, List.map_cons, List.map_nil, List.mem_append, List.mem_singleton, not_or]
      refine ⟨h k (by simp only [keysP, List.map_cons]; exact List.mem_cons_of_mem _ hb), fun e => hu'.1 (e ▸ hb)⟩
theorem add_self {a : Prs} (h : Uniq a) : addP [] a = a := by rw [add_apart a [] h (by simp [keysP])]; rfl
theorem read_join {a : Prs} (h : Uniq a) : readC (joinL (flatP a)) = some a := by
  unfold readC
  rw [split_join, Option.bind_some, flatP_len, if_pos (by omega), pairs_flat, add_self h]
theorem set_set (a : Prs) (k v v' : Bs) : setP (setP a k v) k v' = setP a k v' := by
  induction a with
  | nil => simp [setP]
  | cons p a ih =>
    rw [setP]
    split
    · rename_i e; subst e; simp [setP]
    · rename_i e; simp [setP, e, ih]
theorem set_comm {a : Prs} {k : Bs} (h : k ∈ keysP a) {k' : Bs} (hne : k' ≠ k) (v v' : Bs) : setP (setP a k' v') k v = setP (setP a k v) k' v' := by
  induction a with
  | nil => simp [keysP] at h
  | cons p a ih =>
    by_cases e : p.1 = k
    · subst e
      have hne2 : ¬ p.1 = k' := fun e => hne e.symm
      simp [setP, hne2, hne]
    · by_cases e' : p.1 = k'
      · subst e'
        simp [setP, e]
      · have h' : k ∈ keysP a := by
          simp only [keysP, List.map_cons, List.mem_cons] at h
          rcases h with h | h
          · exact absurd h.symm e
          · exact h
        simp [setP, e, e', ih h']
theorem mem_set {a : Prs} {k : Bs} (h : k ∈ keysP a) (k' v' : Bs) : k ∈ keysP (setP a k' v') := by
  rw [set_keys]; split
  · exact h
  · exact List.mem_append_left _ h
theorem set_add : ∀ (b a : Prs) (k v : Bs), k ∈ keysP a → k ∉ keysP b → setP (addP a b) k v = addP (setP a k v) b := by
  intro b
  induction b with
  | nil => intro a k v _ _; rfl
  | cons p b ih =>
    intro a k v h hn
    simp only [keysP, List.map_cons, List.mem_cons, not_or] at hn
    rw [add_cons, add_cons, ih _ k v (mem_set h _ _) hn.2, set_comm h (fun e => hn.1 e.symm)]
theorem mem_set_self (a : Prs) (k v : Bs) : k ∈ keysP (setP a k v) := by
  rw [set_keys]; split
  · assumption
  · simp
theorem add_set : ∀ (b a : Prs), Uniq b → ∀ (k v : Bs), addP a (setP b k v) = setP (addP a b) k v := by
  intro b
  induction b with
  | nil => intro a _ k v; rfl
  | cons p b ih =>
    intro a hu k v
    have hu' : p.1 ∉ keysP b ∧ Uniq b := by unfold Uniq keysP at *; simpa using hu
    by_cases e : p.1 = k
    · subst e
      rw [setP, if_pos rfl, add_cons, add_cons, set_add b _ _ _ (mem_set_self _ _ _) hu'.1, set_set]
    · rw [setP, if_neg e, add_cons, add_cons, ih _ hu'.2]
theorem add_assoc {b : Prs} (hb : Uniq b) (a c : Prs) : addP (addP a b) c = addP a (addP b c) := by
  induction c generalizing b with
  | nil => rfl
  | cons p c ih =>
    rw [add_cons, add_cons, ← add_set b a hb, ih (set_uniq hb _ _)]
/-- Alike. -/
def alikeP (a b : Prs) : Bool := a.length == b.length && a.all fun p => getP b p.1 == some p.2
theorem get_mem {a : Prs} {k v : Bs} (h : getP a k = some v) : (k, v) ∈ a := by
  induction a with
  | nil => cases h
  | cons p a ih =>
    rw [getP] at h
    split at h
    · rename_i e; subst e; cases h; simp
    · exact List.mem_cons_of_mem _ (ih h)
theorem mem_get {a : Prs} (hu : Uniq a) {k v : Bs} (h : (k, v) ∈ a) : getP a k = some v := by
  induction a with
  | nil => cases h
  | cons p a ih =>
    have hu' : p.1 ∉ keysP a ∧ Uniq a := by unfold Uniq keysP at *; simpa using hu
    rw [getP]
    rcases List.mem_cons.1 h with e | h
    · subst e; simp
    · have : p.1 ≠ k := fun e => hu'.1 (by rw [e]; exact List.mem_map_of_mem (f := (·.1)) h)
      rw [if_neg this, ih hu'.2 h]
theorem alike_iff {a b : Prs} (hb : Uniq b) : alikeP a b = true ↔ a.length = b.length ∧ ∀ p ∈ a, p ∈ b := by
  unfold alikeP
  rw [Bool.and_eq_true, beq_iff_eq, List.all_eq_true]
  constructor
  · rintro ⟨h1, h2⟩; exact ⟨h1, fun p hp => get_mem (eq_of_beq (h2 p hp))⟩
  · rintro ⟨h1, h2⟩; exact ⟨h1, fun p hp => by rw [mem_get hb (h2 p hp)]; simp⟩
theorem nodup_sub : ∀ (l m : List (Bs × Bs)), l.Nodup → (∀ x ∈ l, x ∈ m) → l.length ≤ m.length := by
  intro l
  induction l with
  | nil => intro m _ _; simp
  | cons x l ih =>
    intro m hn h
    rw [List.nodup_cons] at hn
    have hx : x ∈ m := h x (by simp)
    have := ih (m.erase x) hn.2 (fun y hy => (List.mem_erase_of_ne (show y ≠ x from fun e => hn.1 (by rw [← e]; exact hy))).2 (h y (List.mem_cons_of_mem _ hy)))
    rw [List.length_erase_of_mem hx] at this
    have hp := List.length_pos_of_mem hx
    simp only [List.length_cons]; omega
theorem uniq_nodup {a : Prs} (h : Uniq a) : a.Nodup := by
  induction a with
  | nil => exact List.nodup_nil
  | cons p a ih =>
    have hu' : p.1 ∉ keysP a ∧ Uniq a := by unfold Uniq keysP at *; simpa using h
    rw [List.nodup_cons]
    exact ⟨fun hm => hu'.1 (List.mem_map_of_mem (f := (·.1)) hm), ih hu'.2⟩
theorem sub_back {a b : Prs} (ha : Uniq a) (hl : a.length = b.length) (h : ∀ p ∈ a, p ∈ b) : ∀ p ∈ b, p ∈ a := by
  intro p hp
  by_cases hpa : p ∈ a
  · exact hpa
  · exfalso
    have := nodup_sub a (b.erase p) (uniq_nodup ha) (fun y hy => (List.mem_erase_of_ne (show y ≠ p from fun e => hpa (by rw [← e]; exact hy))).2 (h y hy))
    rw [List.length_erase_of_mem hp] at this
    have hp := List.length_pos_of_mem hp
    omega
theorem alike_symm {a b : Prs} (ha : Uniq a) (hb : Uniq b) : alikeP a b = alikeP b a := by
  rw [Bool.eq_iff_iff, alike_iff hb, alike_iff ha]
  constructor
  · rintro ⟨h1, h2⟩; exact ⟨h1.symm, sub_back ha h1 h2⟩
  · rintro ⟨h1, h2⟩; exact ⟨h1.symm, sub_back hb h1 h2⟩
theorem alike_trans {a b c : Prs} (hb : Uniq b) (hc : Uniq c) (h1 : alikeP a b = true) (h2 : alikeP b c = true) : alikeP a c = true := by
  rw [alike_iff hb] at h1
  rw [alike_iff hc] at h2 ⊢
  exact ⟨h1.1.trans h2.1, fun p hp => h2.2 p (h1.2 p hp)⟩
theorem alike_self {a : Prs} (h : Uniq a) : alikeP a a = true := (alike_iff h).2 ⟨rfl, fun p hp => hp⟩
end Go.Proofs.YteojlmpipfajoaaGreatDoor

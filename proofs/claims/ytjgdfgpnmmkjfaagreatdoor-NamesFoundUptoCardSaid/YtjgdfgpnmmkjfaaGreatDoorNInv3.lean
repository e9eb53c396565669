/- The head of a path that is there is there (plain). -/
import Derived.Test.YtjgdfgpnmmkjfaaGreatDoorNInv2
namespace Go.Proofs.YtjgdfgpnmmkjfaaGreatDoor
set_option linter.unusedVariables false
set_option linter.unusedSimpArgs false
open Go.RowKit Go.MapKept

theorem all58_last : ∀ {s : Bs}, s ≠ [] → (∀ x ∈ s, x = 58) → s.getLast? = some 58
  | [], h, _ => absurd rfl h
  | [x], _, h => by rw [h x (by simp)]; rfl
  | x :: y :: r, _, h => by
    have := all58_last (s := y :: r) (by simp) (fun z hz => h z (List.mem_cons_of_mem _ hz))
    simpa using this
theorem can_last {l : List Bs} (hne : l ≠ []) (h : ∀ q ∈ l, Gp q) : (canN l).getLast? ≠ some 58 := by
  have hj := join_last l h
  have hn : joinN l ≠ [] := by
    obtain ⟨q, r, rfl⟩ := List.exists_cons_of_ne_nil hne
    obtain ⟨c, r', rfl, _⟩ := (h q (by simp)).h
    cases r <;> simp [joinN]
  obtain ⟨x, y, hxy⟩ := List.exists_cons_of_ne_nil hn
  unfold canN
  rw [hxy] at hj ⊢
  simpa using hj
theorem abs_head {s : Bs} (h : s.head? ≠ some 58) : absN s = false := by
  cases hb : absN s with
  | false => rfl
  | true =>
    exfalso
    unfold absN at hb
    split at hb
    · exact h rfl
    · cases hb
theorem head_in {p : Bs} {l : List Bs} (hc : Cp p l) : ∃ i, headN p = canN (l.take i) := by
  by_cases hl : l = []
  · subst hl
    refine ⟨0, ?_⟩
    rw [hc.1]
    decide
  · have hlen : 2 ≤ p.length := by rw [hc.1]; simp [canN]
    have hrun : RunAt p 0 := ⟨by rw [hc.1]; simp [canN, col], .inl rfl⟩
    cases hcut : cutN p with
    | none => exact absurd hrun (last_none hcut 0 (by omega))
    | some ft =>
      obtain ⟨f, t⟩ := ft
      obtain ⟨h1, h2, h3, h4⟩ := last_some hcut
      have htail : tailN p = p.drop t := by unfold tailN; rw [hcut]
      have hdd : p.drop t = (p.drop f).drop (col (p.drop f)) := by rw [List.drop_drop, h3]
      obtain ⟨hct1, hct2⟩ := col_take (p.drop f)
      have habs : absN (tailN p) = false := by rw [htail, hdd]; exact abs_head hct2
      have hne : tailN p ≠ [] := fun e => by
        rw [htail, hdd] at e
        have hlen2 : (p.drop f).length ≤ col (p.drop f) := by have := congrArg List.length e; simp at this ⊢; omega
        have hall : ∀ x ∈ p.drop f, x = 58 := by rwa [List.take_of_length_le hlen2] at hct1
        have hcl := col_le (p.drop f)
        have hcol := h2.1
        have hnn : p.drop f ≠ [] := fun e => by rw [e] at hcl hcol; simp at hcl; omega
        have hlast := all58_last hnn hall
        have hp : p.getLast? = some 58 := by
          conv => lhs; rw [← List.take_append_drop f p]
          rw [List.getLast?_append, hlast]; rfl
        rw [hc.1] at hp
        exact can_last hl hc.2 hp
      have ht := head_tail p hne
      rw [cp_self hc] at ht
      unfold canonN at ht
      rw [if_neg (by rw [habs]; simp)] at ht
      have hgood : ∀ q ∈ partsN (headN p) ++ partsN (tailN p), Gp q := fun q hq => by
        rcases List.mem_append.1 hq with h | h
        · exact parts_good _ q h
        · exact parts_good _ q h
      have hli := cp_inj (k := p) ⟨ht.symm, hgood⟩ hc
      have hhd : headN p = canN (partsN (p.take f)) := by unfold headN; rw [hcut]; exact canon_root _
      refine ⟨(partsN (headN p)).length, ?_⟩
      rw [← hli, List.take_left]
      rw [hhd, parts_can _ (parts_good _)]
theorem head_there {S : Bs → Option ND} {n : Nat} (h : Gd S n) {p : Bs} (hp : (S p).isSome = true) : (S (canonN rootN (headN p))).isSome = true ∧ p.length ≤ 10000 := by
  obtain ⟨l, hc, h2, h3⟩ := h.key p hp
  obtain ⟨i, hi⟩ := head_in hc
  rw [hi, cp_self (cp_take hc i)]
  exact ⟨h3 i, h2⟩
end Go.Proofs.YtjgdfgpnmmkjfaaGreatDoor

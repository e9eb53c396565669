/- The contract of the clock's map of letters: each letter leads to its function, its digits and its names. -/
import Derived.Test.YtkahakhhdiffcaaGreatDoorCLet2
import Derived.Test.YtkahakhhdiffcaaGreatDoorVMap
namespace Go.Proofs.YtkahakhhdiffcaaGreatDoor
set_option linter.unusedVariables false
set_option linter.unusedSimpArgs false
open Go.RowKit
open Go.Maps (Keyed int_keyed)

theorem tab_keep {name : String} {g : Nat} (hg : Tryz.prog.globalNamed name = some g) {k : IntKind} {zs : List Int} {w w' : World} (h : Lib.TabIs Tryz.prog w name k zs) (hb : Below w.heap.size w w') : Lib.TabIs Tryz.prog w' name k zs := by
  unfold Lib.TabIs World.var? at h ⊢
  rw [hg] at h ⊢
  simp only [Option.bind_some] at h ⊢
  have hlt : g < w.heap.size := by
    rcases Nat.lt_or_ge g w.heap.size with h1 | h1
    · exact h1
    · rw [Array.getElem?_eq_none h1] at h; simp at h
  rw [hb.block g hlt]
  exact h
theorem gSpace : (Tryz.prog.globalNamed "strings.asciiSpace").isSome = true := by kernel_rfl
theorem SpaceIs.below {w w' : World} (h : SpaceIs w) (hb : Below w.heap.size w w') : SpaceIs w' := by
  obtain ⟨g, hg⟩ := Option.isSome_iff_exists.1 gSpace
  exact tab_keep hg h hb
theorem Only.cell {b : Nat} {w w' : World} (h : Only b w w') {p : Addr} (hp : p.block ≠ b) : w'.cell? p = w.cell? p := by simp only [World.cell?, h.block _ hp]

/-- What a letter stands for: which function (of a date's part, or of the time itself), how many digits, which names. -/
structure Info where
  direct : Bool
  F : Nat
  dig : Int
  names : List Bs
def info (c : Int) : Option Info :=
  if c = 89 then some ⟨false, 65, 4, []⟩ else if c = 121 then some ⟨false, 66, 2, []⟩ else if c = 109 then some ⟨false, 63, 2, []⟩
  else if c = 100 then some ⟨false, 64, 2, []⟩ else if c = 72 then some ⟨false, 67, 2, []⟩ else if c = 77 then some ⟨false, 68, 2, []⟩
  else if c = 83 then some ⟨false, 69, 2, []⟩ else if c = 101 then some ⟨false, 64, 0, []⟩ else if c = 73 then some ⟨false, 70, 2, []⟩
  else if c = 112 then some ⟨false, 71, 0, [[65, 77], [80, 77]]⟩ else if c = 106 then some ⟨true, 72, 3, []⟩ else if c = 117 then some ⟨true, 22, 1, []⟩
  else if c = 71 then some ⟨true, 73, 4, []⟩ else if c = 86 then some ⟨true, 75, 2, []⟩ else if c = 66 then some ⟨false, 63, 0, monthsL⟩
  else if c = 98 then some ⟨false, 63, 0, monthsL.map (·.take 3)⟩ else if c = 65 then some ⟨true, 22, 0, weekdaysL⟩ else if c = 97 then some ⟨true, 22, 0, weekdaysL.map (·.take 3)⟩
  else if c = 115 then some ⟨true, 79, 0, []⟩ else none

def FunV (mb : Nat) (W : World) (v : Value) (direct : Bool) (F : Nat) : Prop :=
  match direct with
  | true => v = .func (.func F) #[] #[]
  | false => ∃ a, a ≠ mb ∧ v = .func (.func 62) #[] #[.pointer (some ⟨a, 0, none⟩)] ∧ W.cell? ⟨a, 0, none⟩ = some (.func (.func F) #[] #[])
def NamesV (mb : Nat) (W : World) (v : Value) (l : List Bs) : Prop := (l = [] ∧ v = .slice none 0 0) ∨ ∃ b cap, b ≠ mb ∧ v = .slice (some ⟨b, 0, none⟩) l.length cap ∧ SRow W b l ∧ 0 < l.length
def LetterV (mb : Nat) (W : World) (c : Int) (v : Value) : Prop := ∃ i f n, info c = some i ∧ v = .agg #[f, .int .i64 i.dig, n] ∧ FunV mb W f i.direct i.F ∧ NamesV mb W n i.names

theorem FunV.keep {mb : Nat} {W W' : World} {v : Value} {d : Bool} {F : Nat} (h : FunV mb W v d F) (hk : ∀ p : Addr, p.block ≠ mb → p.block < W.heap.size → W'.cell? p = W.cell? p) : FunV mb W' v d F := by
  cases d with
  | true => exact h
  | false =>
    obtain ⟨a, h1, h2, h3⟩ := h
    exact ⟨a, h1, h2, (hk ⟨a, 0, none⟩ h1 (cell_lt h3)).trans h3⟩
theorem NamesV.keep {mb : Nat} {W W' : World} {v : Value} {l : List Bs} (h : NamesV mb W v l) (hk : ∀ p : Addr, p.block ≠ mb → p.block < W.heap.size → W'.cell? p = W.cell? p) : NamesV mb W' v l := by
  rcases h with h | ⟨b, cap, h1, h2, h3, h4⟩
  · exact .inl h
  · exact .inr ⟨b, cap, h1, h2, fun i x hi => (hk ⟨b, i, none⟩ h1 (cell_lt (h3 i x hi))).trans (h3 i x hi), h4⟩
theorem LetterV.keep {mb : Nat} {W W' : World} {c : Int} {v : Value} (h : LetterV mb W c v) (hk : ∀ p : Addr, p.block ≠ mb → p.block < W.heap.size → W'.cell? p = W.cell? p) : LetterV mb W' c v := by
  obtain ⟨i, f, n, h1, h2, h3, h4⟩ := h
  exact ⟨i, f, n, h1, h2, h3.keep hk, h4.keep hk⟩

def encU (c : Int) : Value := .int .u8 c
theorem encU_inj (a b : Int) (h : encU a = encU b) : a = b := by simpa [encU] using h
theorem Ukeyed : Keyed Tryz.prog 5 := int_keyed Tryz.underlying5
theorem ukey {c : Int} (h : 0 ≤ c ∧ c ≤ 255) : keyOf Tryz.prog 5 (encU c) = some (.int .u8 c) := Maps.keyOf_int_mk Tryz.underlying5 (by
  have e1 : IntKind.u8.min = 0 := rfl
  have e2 : IntKind.u8.max = 255 := rfl
  simp [Lit.wf, e1, e2]; omega)

/-- The map of letters while it is made, from world w on: the letters ks are there, and no other. -/
structure LS (w W : World) (ks : List Int) : Prop where
  below : Below w.heap.size w W
  lt : w.heap.size + 2 < W.heap.size
  m2 : W.cell? ⟨w.heap.size, 0, none⟩ = some (.func (.func 63) #[] #[])
  m3 : W.cell? ⟨w.heap.size + 1, 0, none⟩ = some (.func (.func 64) #[] #[])
  map : ∃ g, MapAt Tryz.prog 5 encU W (w.heap.size + 2) g ∧ (∀ c ∈ ks, ∃ v, g c = some v ∧ LetterV (w.heap.size + 2) W c v) ∧ ∀ c, c ∉ ks → g c = none
theorem LS.step {w W W' : World} {ks : List Int} (h : LS w W ks) (hb : Below W.heap.size W W') : LS w W' ks := by
  have hk : ∀ p : Addr, p.block ≠ w.heap.size + 2 → p.block < W.heap.size → W'.cell? p = W.cell? p := fun p _ hp => hb.cell hp
  obtain ⟨g, h1, h2, h3⟩ := h.map
  have hl := h.lt
  refine ⟨h.below.trans (hb.mono h.below.size), Nat.lt_of_lt_of_le h.lt hb.size, (hb.cell (by show w.heap.size < _; omega)).trans h.m2, (hb.cell (by show w.heap.size + 1 < _; omega)).trans h.m3, g, h1.congr (hb.block _ h.lt), fun c hc => ?_, h3⟩
  obtain ⟨v, hv, hl⟩ := h2 c hc
  exact ⟨v, hv, hl.keep hk⟩
set_option maxRecDepth 100000 in
theorem upon_letter {o : Oper} {a : Act} {K : Act → World → Prop} {Q : Exit → Act → World → Prop} {w W : World} {ks : List Int} {c : Int} {val : Value} (hs : LS w W ks) (hc : 0 ≤ c ∧ c ≤ 255) (hl : LetterV (w.heap.size + 2) W c val)
    (hK : ∀ W', LS w W' (c :: ks) → K (a.put o.dst undef) W') :
    Oper.upon Tryz.prog o a K Q (((Instr.mapUpdate 78 (.map (some (w.heap.size + 2))) (.int .u8 c) val).run Tryz.prog W).andThen fun _ w' => .ok Next.skip w') := by
  obtain ⟨g, h1, h2, h3⟩ := hs.map
  obtain ⟨W', hrun, r1, r2⟩ := h1.store Ukeyed (t := 78) (et := 83) Tryz.underlying78 encU_inj (ukey hc) val
  unfold encU at hrun
  rw [hrun]
  suffices key : LS w W' (c :: ks) by
    have := hK W' key
    simp only [Result.andThen, Oper.upon_skip]
    exact this
  have hk : ∀ p : Addr, p.block ≠ w.heap.size + 2 → p.block < W.heap.size → W'.cell? p = W.cell? p := fun p hp _ => r1.cell hp
  refine ⟨hs.below.trans (r1.below (by omega)), by rw [r1.size]; exact hs.lt, (r1.cell (by show w.heap.size ≠ _; omega)).trans hs.m2, (r1.cell (by show w.heap.size + 1 ≠ _; omega)).trans hs.m3, _, r2, fun c' hc' => ?_, fun c' hc' => ?_⟩
  · by_cases hcc : c' = c
    · subst hcc; exact ⟨val, by simp, hl.keep hk⟩
    · rw [if_neg hcc]
      obtain ⟨v', hv', hl'⟩ := h2 c' (by simpa [hcc] using hc')
      exact ⟨v', hv', hl'.keep hk⟩
  · simp only [List.mem_cons, not_or] at hc'
    rw [if_neg hc'.1]
    exact h3 c' hc'.2

set_option maxRecDepth 100000 in
theorem of_any (f : Value) (hf : f.oneCell' = true) (W : World) : Calls Tryz.prog 61 #[f] W fun e w' => e = .returned (.func (.func 62) #[] #[.pointer (some ⟨W.heap.size, 0, none⟩)]) ∧ w' = W.alloc (.cells #[f] 111) := by
  go_enter Tryz.func61, Tryz.ntmps61
  go_wp2_with fail
  go_ret
  exact ⟨rfl, rfl⟩
end Go.Proofs.YtkahakhhdiffcaaGreatDoor

/- 'take' under way: the table, the list of what is gone, what stays. -/
import Derived.Test.YtbbbenjakjejmaaTbRep2
namespace Go.Proofs.Ytbbbenjakjejmaa
set_option linter.unusedVariables false
set_option linter.unusedSimpArgs false
open Go.RowKit Go.MapKept Go.WideMaps

/-- The table, and at block ob a list of numbers, its row beside the table. -/
structure Tk (w : World) (B tb mn mh mk : Nat) (who : Own) (cb : Nat → Nat) (S : TS) (ob : Nat) (row : Value) (zs : List Int) : Prop where
  tb : Tb w B tb mn mh mk who cb S
  wob : who ob = none
  cel : w.heap[ob]? = some (.cells #[row] 33 (0, 0))
  own : w.ownsRow B 3 1 row zs.length (zs.map (Value.int .i64))
  sep : ∀ g, row.ownBlock = some g → who g = none
/-- But for the table, the list and its row all stays. -/
structure TkStp (who : Own) (ob : Nat) (row row' : Value) (w w' : World) : Prop where
  os : w'.os = w.os
  tape : w'.tape = w.tape
  output : w'.output = w.output
  size : w.heap.size ≤ w'.heap.size
  block : ∀ j, j < w.heap.size → who j = none → j ≠ ob → row.ownBlock ≠ some j → w'.heap[j]? = w.heap[j]?
  row : row'.ownBlock = row.ownBlock ∨ ∃ g, row'.ownBlock = some g ∧ w.heap.size ≤ g
section
variable {w w1 w2 w' : World} {B tb mn mh mk ob : Nat} {who : Own} {cb : Nat → Nat} {S : TS} {row row1 row2 : Value} {zs : List Int}
theorem TkStp.refl (who : Own) (ob : Nat) (row : Value) (w : World) : TkStp who ob row row w w := ⟨rfl, rfl, rfl, Nat.le_refl _, fun _ _ _ _ _ => rfl, .inl rfl⟩
theorem TkStp.trans (h : TkStp who ob row row1 w w1) (k : TkStp who ob row1 row2 w1 w2) : TkStp who ob row row2 w w2 := by
  refine ⟨k.os.trans h.os, k.tape.trans h.tape, k.output.trans h.output, Nat.le_trans h.size k.size, fun j hj hn ho hr => (k.block j (Nat.lt_of_lt_of_le hj h.size) hn ho ?_).trans (h.block j hj hn ho hr), ?_⟩
  · rcases h.row with e | ⟨g, e, hg⟩
    · rw [e]; exact hr
    · rw [e]; rintro ⟨⟩; omega
  · rcases k.row with e | ⟨g, e, hg⟩
    · rw [e]; exact h.row
    · exact .inr ⟨g, e, Nat.le_trans h.size hg⟩
/-- A step of the table alone. -/
theorem TkStp.of_stp (h : Stp who who w w') : TkStp who ob row row w w' := ⟨h.fr.os, h.fr.tape, h.fr.output, h.fr.size, fun j hj hn _ _ => h.fr.block j hj hn, .inl rfl⟩
theorem Tk.lt (h : Tk w B tb mn mh mk who cb S ob row zs) : ob < w.heap.size := (Array.getElem?_eq_some_iff.1 h.cel).1
theorem Tk.row_lt (h : Tk w B tb mn mh mk who cb S ob row zs) : ∀ g, row.ownBlock = some g → g < w.heap.size := fun g hg => (h.own.lt g hg).2
/-- A step of the table keeps the list. -/
theorem Tk.turn {S' : TS} (h : Tk w B tb mn mh mk who cb S ob row zs) (hs : Stp who who w w') (hT : Tb w' B tb mn mh mk who cb S') : Tk w' B tb mn mh mk who cb S' ob row zs :=
  ⟨hT, h.wob, (hs.fr.block ob h.lt h.wob).trans h.cel, row_keep h.own (fun g hg => hs.fr.block g (h.row_lt g hg) (h.sep g hg)), h.sep⟩
theorem Tk.low (h : Tk w B tb mn mh mk who cb S ob row zs) (hb : Below w.heap.size w w') : Tk w' B tb mn mh mk who cb S ob row zs := h.turn (Stp.of_below hb) (h.tb.low hb)
theorem Tk.ne (h : Tk w B tb mn mh mk who cb S ob row zs) : row.ownBlock ≠ some ob := fun e => by
  obtain ⟨_, cur, hc⟩ := ownsRow_type h.own ob e
  rw [h.cel] at hc
  simp at hc
/-- A number is put to the list. -/
theorem Tk.push {v' : Value} {z : Int} (h : Tk w B tb mn mh mk who cb S ob row zs) (hk : Kp row.ownBlock.toList w w1) (hr : w1.ownsRow B 3 1 v' (zs.length + 1) (zs.map (Value.int .i64) ++ [.int .i64 z]))
    (hg : v'.ownBlock = row.ownBlock ∨ ∃ g, v'.ownBlock = some g ∧ w.heap.size ≤ g) :
    Tk (w1.setCell ⟨ob, 0, none⟩ v') B tb mn mh mk who cb S ob v' (zs ++ [z]) ∧ TkStp who ob row v' w (w1.setCell ⟨ob, 0, none⟩ v') := by
  have hob : ob ∉ row.ownBlock.toList := fun hm => h.ne (by simpa using hm)
  have hb1 := (hk.block ob h.lt hob).trans h.cel
  have hv : v'.ownBlock ≠ some ob := by
    rcases hg with e | ⟨g, e, hge⟩
    · rw [e]; exact h.ne
    · rw [e]; rintro ⟨⟩; have := h.lt; omega
  have hkp : ∀ j, j < w.heap.size → j ≠ ob → row.ownBlock ≠ some j → (w1.setCell ⟨ob, 0, none⟩ v').heap[j]? = w.heap[j]? := fun j hj h1 h2 => (set_other w1 v' h1).trans (hk.block j hj (fun hm => h2 (by simpa using hm)))
  refine ⟨⟨?_, h.wob, (set_heap (i := 0) v' hb1).trans rfl, ?_, fun g hg' => ?_⟩, ⟨hk.os, hk.tape, hk.output, by rw [set_size]; exact hk.size, fun j hj _ h1 h2 => hkp j hj h1 h2, hg⟩⟩
  · exact h.tb.keep (by rw [set_size]; exact hk.size) (fun j hj => hkp j (h.tb.lo j hj).2 (by rintro rfl; exact hj h.wob) (fun e => hj (h.sep j e)))
  · rw [List.length_append, List.map_append]
    exact row_keep hr (fun g hg' => set_other w1 v' (by rintro rfl; exact hv hg'))
  · rcases hg with e | ⟨g', e, hge⟩
    · rw [e] at hg'; exact h.sep g hg'
    · rw [e] at hg'; cases hg'; exact h.tb.none_at hge
/-- What is beside the table and the list stays. -/
theorem TkStp.cell (h : TkStp who ob row row1 w w1) {p : Addr} {v : Value} (hp : w.cell? p = some v) (h1 : who p.block = none) (h2 : p.block ≠ ob) (h3 : row.ownBlock ≠ some p.block) : w1.cell? p = some v := by
  have := h.block p.block (World.block_lt_of_cell? w p hp) h1 h2 h3
  rw [World.cell?_of_block this]
  exact hp
end
end Go.Proofs.Ytbbbenjakjejmaa

/- TopPairs: stores: 'NewStore', 'add', 'Add', 'got', 'Text'. -/
import Derived.Test.YtodajjhchngkgaaTopV
namespace Go.Proofs.Ytodajjhchngkgaa
set_option linter.unusedVariables false
set_option linter.unusedSimpArgs false
open Go.RowKit

/-- A store of one value. -/
structure StoreAt (w : World) (st g c vb sb : Nat) (t : Bs) (f : Value) : Prop where
  cel : w.heap[st]? = some (.cells #[.slice (some ⟨g, 0, none⟩) 1 c] 85 (0, 0))
  row : w.cell? ⟨g, 0, none⟩ = some (.pointer (some ⟨vb, 0, none⟩))
  lt : g < w.heap.size
  val : ValAt w vb sb t f
  d1 : st ≠ vb
  d2 : st ≠ sb
  d3 : g ≠ vb
  d4 : g ≠ sb
theorem vcells1 {W : World} {b : Nat} {u : Value} {t : TypeId} (h : W.heap[b]? = some (.cells #[u] t (0, 0))) : W.cell? ⟨b, 0, none⟩ = some u ∧ ∀ i, W.frozen? ⟨b, i, none⟩ = false := by
  refine ⟨?_, fun i => by simp [World.frozen?, h]⟩; simp only [World.cell?, h]; rfl
theorem StoreAt.lst {w : World} {st g c vb sb : Nat} {t : Bs} {f : Value} (h : StoreAt w st g c vb sb t f) : st < w.heap.size := (Array.getElem?_eq_some_iff.1 h.cel).1
theorem StoreAt.kp {D : List Nat} {w w' : World} {st g c vb sb : Nat} {t : Bs} {f : Value} (h : StoreAt w st g c vb sb t f) (k : Kp D w w') (h0 : st ∉ D) (h1 : g ∉ D) (h2 : vb ∉ D) (h3 : sb ∉ D) : StoreAt w' st g c vb sb t f :=
  ⟨(k.block st h.lst h0).trans h.cel, by have := h.row; simp only [World.cell?] at this ⊢; rw [k.block g h.lt h1]; exact this, Nat.lt_of_lt_of_le h.lt k.size, h.val.kp k h2 h3, h.d1, h.d2, h.d3, h.d4⟩
theorem StoreAt.below {w w' : World} {st g c vb sb : Nat} {t : Bs} {f : Value} (h : StoreAt w st g c vb sb t f) (k : Below w.heap.size w w') : StoreAt w' st g c vb sb t f := h.kp (kp_of_below k) (by simp) (by simp) (by simp) (by simp)
/-- The value of a store turns. -/
theorem StoreAt.turn {w w' : World} {st g c vb sb : Nat} {t u : Bs} {f f' : Value} (h : StoreAt w st g c vb sb t f) (k : Kp [vb, sb] w w') (hv : ValAt w' vb sb u f') : StoreAt w' st g c vb sb u f' :=
  ⟨(k.block st h.lst (by simp [h.d1, h.d2])).trans h.cel, by have := h.row; simp only [World.cell?] at this ⊢; rw [k.block g h.lt (by simp [h.d3, h.d4])]; exact this, Nat.lt_of_lt_of_le h.lt k.size, hv, h.d1, h.d2, h.d3, h.d4⟩
theorem infoPV : (Try.prog.info? 31).map (fun i => (i.zero, i.size, i.bytes)) = some (some (.pointer none), 1, 8) := by kernel_rfl
theorem sNew_any (w : World) : Calls Try.prog 15 #[] w fun e w' => e = .returned (.pointer (some ⟨w.heap.size, 0, none⟩)) ∧ w'.heap[w.heap.size]? = some (.cells #[.slice none 0 0] 85 (0, 0)) ∧ Below w.heap.size w w' := by
  go_enter Try.func15, Try.ntmps15
  go_wp2
  go_ret
  exact ⟨rfl, heap_alloc_new w _, (Below.refl _ w).alloc (Nat.le_refl _) _⟩
theorem sadd_any {w : World} {st vb : Nat} (h : w.heap[st]? = some (.cells #[.slice none 0 0] 85 (0, 0))) :
    Calls Try.prog 43 #[.pointer (some ⟨st, 0, none⟩), .pointer (some ⟨vb, 0, none⟩)] w fun e w' => ∃ g c, e = .returned (.int .i64 0) ∧ w'.heap[st]? = some (.cells #[.slice (some ⟨g, 0, none⟩) 1 c] 85 (0, 0)) ∧ w'.cell? ⟨g, 0, none⟩ = some (.pointer (some ⟨vb, 0, none⟩)) ∧ g < w'.heap.size ∧ w.heap.size ≤ g ∧ Kp [st] w w' := by
  obtain ⟨c0, fz⟩ := vcells1 h
  have fz0 := fz 0
  have hst : st < w.heap.size := (Array.getElem?_eq_some_iff.1 h).1
  have H := Lib.hid h
  clear h fz
  go_enter Try.func43, Try.ntmps43
  go_wp2_with (at_builtin; refine wpList_push rfl _ _ 83 rfl w.heap.size 31 (.pointer none) 8 Try.underlying83 infoPV rfl (.slice none 0 0) 0 [] rfl (World.ownsRow_nil _ _ _ _) (.pointer (some ⟨vb, 0, none⟩)) _ rfl rfl (by unfold maxLen; omega) (by omega) (Nat.le_refl _) ?_; intro g cap w1 hg hown1 hb1 _; have HG := Lib.hid (And.intro hg (And.intro hown1 hb1)); have e0 : w1.heap[st]? = some (.cells #[.slice none 0 0] 85 (0, 0)) := (hb1.block st hst).trans H.out; obtain ⟨d0, dz⟩ := vcells1 e0; have dz0 := dz 0; have E0 := Lib.hid e0; clear hg hown1 hb1 e0 dz)
  go_ret
  obtain ⟨hg, hown, hb⟩ := HG.out
  have hl := hb.size
  rcases hown.2 with ⟨h0, _⟩ | ⟨g', cap', cur, he, _, hh, h1, h2, h3, h4⟩
  · cases h0
  · cases he
    have hgl := (Array.getElem?_eq_some_iff.1 hh).1
    have hne : st ≠ g := by omega
    refine ⟨g, cap, rfl, vset_step E0.out, ?_, ?_, hg, (Kp.refl [st] w).trans (kp_of_below hb) (by simp) |>.setCell st 0 _ (.inl (by simp))⟩
    · have hc : w1.cell? ⟨g, 0, none⟩ = some (.pointer (some ⟨vb, 0, none⟩)) := by
        have h5 : cur.toList.take 1 = [Value.pointer (some ⟨vb, 0, none⟩)] := h4
        have h6 : cur[0]? = some (Value.pointer (some ⟨vb, 0, none⟩)) := by
          have := congrArg (·[0]?) h5
          simpa using this
        simp only [World.cell?, hh, h6]
        rfl
      simp only [World.cell?] at hc ⊢
      rw [Below.heap_setCell w1 ⟨st, 0, none⟩ _ g (by simpa using hne.symm)]
      exact hc
    · simpa [World.setCell] using hgl
theorem sAdd_any {w : World} {st : Nat} (t : Bs) (h : w.heap[st]? = some (.cells #[.slice none 0 0] 85 (0, 0))) :
    Calls Try.prog 16 #[.pointer (some ⟨st, 0, none⟩), .string ⟨t.toArray⟩] w fun e w' => ∃ g c vb sb, e = .returned (.int .i64 0) ∧ StoreAt w' st g c vb sb t .nilIface ∧ Kp [st] w w' ∧ w.heap.size ≤ g ∧ w.heap.size ≤ vb ∧ w.heap.size ≤ sb := by
  have hst : st < w.heap.size := (Array.getElem?_eq_some_iff.1 h).1
  have NW := Lib.hid (vNew_any t w)
  have AD : Hid (∀ W vb, Below w.heap.size w W → Calls Try.prog 43 #[.pointer (some ⟨st, 0, none⟩), .pointer (some ⟨vb, 0, none⟩)] W fun e w' => ∃ g c, e = .returned (.int .i64 0) ∧ w'.heap[st]? = some (.cells #[.slice (some ⟨g, 0, none⟩) 1 c] 85 (0, 0)) ∧ w'.cell? ⟨g, 0, none⟩ = some (.pointer (some ⟨vb, 0, none⟩)) ∧ g < w'.heap.size ∧ W.heap.size ≤ g ∧ Kp [st] W w') := fun W vb hB => sadd_any ((hB.block st hst).trans h)
  have HS := Lib.hid hst
  clear h hst
  go_enter Try.func16, Try.ntmps16
  go_wp2_with (first | (go_at_call 10; refine NW.out.mono ?_; rintro e w1 ⟨vb, sb, rfl, q1, q2, q3, q4⟩; have H1 := Lib.hid (And.intro q1 (And.intro q2 (And.intro q3 q4))); clear q1 q2 q3 q4) | (go_at_call 43; refine (AD.out _ vb H1.out.2.1).mono ?_; rintro e w2 ⟨g, c, rfl, q5⟩; have H2 := Lib.hid q5; clear q5))
  go_ret
  obtain ⟨q1, q2, q3, q4⟩ := H1.out
  obtain ⟨p1, p2, p3, p4, p5⟩ := H2.out
  have hst := HS.out
  have hv := q1.ltv
  have hs := q1.lts
  exact ⟨g, c, vb, sb, rfl, ⟨p1, p2, p3, q1.kp p5 (by simp; omega) (by simp; omega), by omega, by omega, by omega, by omega⟩, (kp_of_below q2).mono (by simp) |>.trans p5 (fun d hd => .inl hd), by have := q2.size; omega, q3, q4⟩
theorem sgot_any {w : World} {st g c vb sb : Nat} {t : Bs} {f : Value} (h : StoreAt w st g c vb sb t f) :
    Calls Try.prog 44 #[.pointer (some ⟨st, 0, none⟩), .int .i64 0] w fun e w' => e = .returned (.tuple #[.pointer (some ⟨vb, 0, none⟩), .int .i64 0]) ∧ w' = w := by
  obtain ⟨c0, _⟩ := vcells1 h.cel
  have r0 := h.row
  clear h
  go_enter Try.func44, Try.ntmps44
  go_wp2
  go_ret2
  exact ⟨rfl, rfl⟩
theorem sText_any {w : World} {st g c vb sb : Nat} {t : Bs} {f : Value} (h : StoreAt w st g c vb sb t f) :
    Calls Try.prog 18 #[.pointer (some ⟨st, 0, none⟩), .int .i64 0] w fun e w' => e = .returned (.tuple #[.string ⟨t.toArray⟩, .int .i64 0]) ∧ w' = w := by
  have GO := Lib.hid (sgot_any h)
  have TX := Lib.hid (vText_any h.val)
  clear h
  go_enter Try.func18, Try.ntmps18
  go_wp2_with (first | (go_at_call 44; refine GO.out.mono ?_; rintro e w1 ⟨rfl, rfl⟩) | (go_at_call 33; refine TX.out.mono ?_; rintro e w2 ⟨rfl, rfl⟩))
  go_ret2
  exact ⟨rfl, rfl⟩
end Go.Proofs.Ytodajjhchngkgaa

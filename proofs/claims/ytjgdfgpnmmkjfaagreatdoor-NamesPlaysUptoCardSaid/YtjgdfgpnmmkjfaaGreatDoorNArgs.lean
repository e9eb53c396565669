/- Acts among the arguments: a slice of structs, each with a list of texts, is read; how great it is. -/
import Derived.Test.YtjgdfgpnmmkjfaaGreatDoorRows
import Derived.Test.YtjgdfgpnmmkjfaaGreatDoorNPl0
import Derived.SliceStrings
import Derived.Deep.Slices
import Derived.Deep.Fields
import Derived.SizedLaws
namespace Go.Proofs.YtjgdfgpnmmkjfaaGreatDoor
set_option linter.unusedVariables false
set_option linter.unusedSimpArgs false
open Go.ChangeShapes Go.WideShapes Go.Deep Go.RowKit

section
variable {H : Type} {enc : TypeId × Value → H} {w : World}
theorem cellsStr : Tryz.prog.cellsOf 9 = 1 := by kernel_rfl
/-- A slice of texts that came in. -/
theorem open_txts {W : World} {fuel : Nat} {ao : Option Addr} {n cap : Nat} {x : DataW H × List MemPlace} (h : DataW.trod enc Tryz.prog W 0 (fun _ => true) true fuel 27 [.slice ao n cap] = some x)
    (hlt : ∀ p ∈ x.2, p.block < W.heap.size) :
    ∃ ss : List Bs, n = ss.length ∧ TxtRow W (.slice ao n cap) ss ∧ (x.1 = .nil ∧ ss = [] ∨ ∃ sp, x.1 = .slice (ss.map fun s => .lit (.string s)) sp) := by
  rcases open_strings Tryz.underlying27 Tryz.underlying9 cellsStr h with ⟨hcs, hx⟩ | ⟨a, len', cap', zs, hcs, _, hl, hm, hz, hx, hcell, hwz⟩
  · simp at hcs
    obtain ⟨rfl, rfl, rfl⟩ := hcs
    exact ⟨[], rfl, TxtRow.nil _, .inl ⟨by rw [hx], rfl⟩⟩
  · simp at hcs
    obtain ⟨rfl, rfl, rfl⟩ := hcs
    simp only [if_true] at hz
    obtain ⟨ss, hss⟩ : ∃ ss : List Bs, ss = (zs.take n).map fun b => b.data.toList := ⟨_, rfl⟩
    have hlen : ss.length = n := by rw [hss]; simp; omega
    refine ⟨ss, hlen.symm, ⟨_, cap, by rw [hlen], by omega, hm, fun i hi => ?_⟩, .inr ⟨strs (zs.drop n), by rw [hx, hss, List.map_map]; rfl⟩⟩
    have hi' : i < n := by omega
    obtain ⟨b, off, spot⟩ := a
    have hc := hcell i (by omega)
    have hspot : spot = none := by
      have h0 := hcell 0 (by omega)
      simpa [Addr.add] using World.cell?_spot h0
    subst hspot
    refine ⟨b, off, rfl, ?_, ?_⟩
    · refine hlt (.cell b off) ?_
      rw [hx]
      exact MemPlace.mem_row.2 ⟨0, by omega, by simp⟩
    · rw [add_plain] at hc
      rw [hc]
      simp [hss, List.getD, show i < zs.length by omega, sv]
theorem txts_bulk (ss : List Bs) : Rows.uptoBulkAll (ss.map fun s => DataW.lit (H := H) (.string s)) = longS ss := by
  induction ss with
  | nil => simp [Rows.uptoBulkAll, longS]
  | cons s r ih => simp only [List.map_cons, Rows.uptoBulkAll, Rows.uptoBulk, ih, longS]

abbrev anC (v : AN) : List Value := [.int .i64 v.k, .string ⟨v.s.toArray⟩, .string ⟨v.t.toArray⟩, .slice v.lo v.L.length v.lc, .bool v.cl]

set_option maxRecDepth 100000 in
theorem open_an {fuel : Nat} {cs : List Value} {x : DataW H × List MemPlace} (h : DataW.trod enc Tryz.prog w 0 (fun _ => true) true fuel 29 cs = some x) (hlt : ∀ p ∈ x.2, p.block < w.heap.size) :
    ∃ v : AN, cs = anC v ∧ TxtRow w (.slice v.lo v.L.length v.lc) v.L ∧ (∀ a, v.lo = some a → 0 < v.L.length → a.block < w.heap.size) ∧ v.sum ≤ Rows.uptoBulk x.1 := by
  obtain ⟨ys, n, _, hx, hlen, hyl, hf⟩ := DataW.trod_struct Tryz.underlying29 h
  have h5 : Tryz.prog.cellsOf 29 = 5 := by kernel_rfl
  have hci : Tryz.prog.cellsOf 3 = 1 := by kernel_rfl
  have hcs : Tryz.prog.cellsOf 9 = 1 := by kernel_rfl
  have hcl : Tryz.prog.cellsOf 27 = 1 := by kernel_rfl
  have hcb : Tryz.prog.cellsOf 4 = 1 := by kernel_rfl
  rw [h5] at hlen
  match cs, hlen with
  | [c0, c1, c2, c3, c4], _ =>
    match ys, hyl with
    | [y0, y1, y2, y3, y4], _ =>
      have f0 : DataW.trod enc Tryz.prog w 0 (fun _ => true) true n 3 (([c0, c1, c2, c3, c4].drop 0).take (Tryz.prog.cellsOf 3)) = some y0 := hf 0 _ rfl
      rw [hci] at f0
      have f0 : DataW.trod enc Tryz.prog w 0 (fun _ => true) true n 3 [c0] = some y0 := f0
      have f1 : DataW.trod enc Tryz.prog w 0 (fun _ => true) true n 9 (([c0, c1, c2, c3, c4].drop 1).take (Tryz.prog.cellsOf 9)) = some y1 := hf 1 _ rfl
      rw [hcs] at f1
      have f1 : DataW.trod enc Tryz.prog w 0 (fun _ => true) true n 9 [c1] = some y1 := f1
      have f2 : DataW.trod enc Tryz.prog w 0 (fun _ => true) true n 9 (([c0, c1, c2, c3, c4].drop 2).take (Tryz.prog.cellsOf 9)) = some y2 := hf 2 _ rfl
      rw [hcs] at f2
      have f2 : DataW.trod enc Tryz.prog w 0 (fun _ => true) true n 9 [c2] = some y2 := f2
      have f3 : DataW.trod enc Tryz.prog w 0 (fun _ => true) true n 27 (([c0, c1, c2, c3, c4].drop 3).take (Tryz.prog.cellsOf 27)) = some y3 := hf 3 _ rfl
      rw [hcl] at f3
      have f3 : DataW.trod enc Tryz.prog w 0 (fun _ => true) true n 27 [c3] = some y3 := f3
      have f4 : DataW.trod enc Tryz.prog w 0 (fun _ => true) true n 4 (([c0, c1, c2, c3, c4].drop 4).take (Tryz.prog.cellsOf 4)) = some y4 := hf 4 _ rfl
      rw [hcb] at f4
      have f4 : DataW.trod enc Tryz.prog w 0 (fun _ => true) true n 4 [c4] = some y4 := f4
      have hlt3 : ∀ p ∈ y3.2, p.block < w.heap.size := fun p hp => hlt p (by rw [hx]; simp [hp])
      obtain ⟨k, e0, r0, w0⟩ := DataW.trod_int Tryz.underlying3 f0
      obtain ⟨s, e1, r1, w1⟩ := DataW.trod_string Tryz.underlying9 f1
      obtain ⟨t, e2, r2, w2⟩ := DataW.trod_string Tryz.underlying9 f2
      obtain ⟨cl, e4, r4⟩ := DataW.trod_bool Tryz.underlying4 f4
      obtain ⟨ao, m, cap, e3⟩ : ∃ ao m cap, c3 = .slice ao m cap := by
        rcases open_strings Tryz.underlying27 Tryz.underlying9 cellsStr f3 with ⟨hc, _⟩ | ⟨a, len', cap', zs, hc, _⟩
        · simp at hc; exact ⟨_, _, _, hc⟩
        · simp at hc; exact ⟨_, _, _, hc⟩
      subst e3
      obtain ⟨ss, rfl, hR, hd⟩ := open_txts f3 hlt3
      simp only [List.cons.injEq, and_true] at e0 e1 e2 e4
      subst e0 e1 e2 e4 r0 r1 r2 r4
      refine ⟨⟨k, s.data.toList, t.data.toList, ss, cl, ao, cap⟩, rfl, hR, fun a ha h0 => ?_, ?_⟩
      · obtain ⟨_, _, _, h4⟩ := hR.at_
        obtain ⟨b, off, e, hl, _⟩ := h4 0 h0
        simp only at ha
        rw [e] at ha
        cases ha
        exact hl
      · have hb : longS ss ≤ Rows.uptoBulk y3.1 := by
          rcases hd with ⟨_, rfl⟩ | ⟨sp, hd⟩
          · simp [longS]
          · rw [hd]
            simp only [Rows.uptoBulk, txts_bulk]
            omega
        rw [hx]
        simp only [AN.sum, List.map_cons, List.map_nil, Rows.uptoBulk, Rows.uptoBulkAll]
        omega
theorem sum_bulk {f : Nat → AN} {D : Nat → DataW H} : ∀ L : List Nat, (∀ i ∈ L, (f i).sum ≤ Rows.uptoBulk (D i)) → sumN (L.map f) ≤ Rows.uptoBulkAll (L.map D)
  | [], _ => by simp [sumN, Rows.uptoBulkAll]
  | i :: L, h => by
    have h1 := h i (by simp)
    have h2 := sum_bulk L (fun j hj => h j (by simp [hj]))
    simp only [List.map_cons, sumN, Rows.uptoBulkAll]
    omega
theorem len_sumN : ∀ l : List AN, l.length ≤ sumN l
  | [] => by simp
  | x :: l => by have := len_sumN l; simp only [sumN, AN.sum, List.length_cons]; omega

set_option maxRecDepth 100000 in
theorem open_ans {fuel : Nat} {ao : Option Addr} {n cap : Nat} {x : DataW H × List MemPlace} (h : DataW.trod enc Tryz.prog w 0 (fun _ => true) true fuel 22 [.slice ao n cap] = some x)
    (hlt : ∀ p ∈ x.2, p.block < w.heap.size) :
    ∃ l : List AN, n = l.length ∧ AR w.heap.size w ao l ∧ sumN l ≤ Rows.uptoBulk x.1 := by
  have h5 : Tryz.prog.cellsOf 29 = 5 := by kernel_rfl
  rcases open_slice Tryz.underlying22 h with ⟨hcs, hx⟩ | ⟨a, len, cap', m, n', D, Pl, hcs, hb, hl, hm, hmm, hx, hi⟩
  · simp at hcs
    obtain ⟨rfl, rfl, rfl⟩ := hcs
    exact ⟨[], rfl, ⟨fun h => absurd rfl h, by simp⟩, by simp [sumN]⟩
  · simp at hcs
    obtain ⟨rfl, rfl, rfl⟩ := hcs
    simp only [if_true] at hmm
    subst hmm
    have hex : ∀ i, ∃ v : AN, i < m → w.cells? 0 (a.add (i * 5)) 5 = some (anC v) ∧ TxtRow w (.slice v.lo v.L.length v.lc) v.L ∧ (∀ a, v.lo = some a → 0 < v.L.length → a.block < w.heap.size) ∧ v.sum ≤ Rows.uptoBulk (D i) := by
      intro i
      by_cases him : i < m
      · obtain ⟨cs', hc, ht⟩ := hi i him
        rw [h5] at hc
        obtain ⟨v, rfl, q1, q2, q3⟩ := open_an ht (fun p hp => hlt p (by
          rw [hx]
          exact List.mem_append.2 (.inr (List.mem_flatMap.2 ⟨i, List.mem_range.2 him, hp⟩))))
        exact ⟨v, fun _ => ⟨hc, q1, q2, q3⟩⟩
      · exact ⟨⟨0, [], [], [], false, none, 0⟩, fun h => absurd h him⟩
    obtain ⟨f, hf⟩ := Classical.axiomOfChoice hex
    have hcell : ∀ i, i < m → ∀ j, j < 5 → w.cell? (a.add (i * 5 + j)) = (anC (f i))[j]? := fun i him j hj => by
      obtain ⟨_, _, h3⟩ := World.cells?_some (hf i him).1
      rw [← Go.Deep.add_add]; exact h3 j hj
    refine ⟨(List.range n).map f, by simp, ⟨fun hne => ?_, ?_⟩, ?_⟩
    · have hn0 : 0 < n := by
        rcases Nat.eq_zero_or_pos n with h | h
        · subst h; simp at hne
        · exact h
      obtain ⟨b, off, spot⟩ := a
      have hsp : spot = none := by
        have := hcell 0 (by omega) 0 (by omega)
        simpa [Addr.add] using World.cell?_spot this
      subst hsp
      refine ⟨b, off, rfl, ?_, fun i hi => ?_⟩
      · refine hlt (.cell b off) ?_
        rw [hx, h5]
        exact List.mem_append.2 (.inl (MemPlace.mem_row.2 ⟨0, by omega, by simp⟩))
      · simp at hi
        have g := hcell i (by omega)
        simp only [List.getElem_map, List.getElem_range]
        have e : ∀ j, (⟨b, off, none⟩ : Addr).add (i * 5 + j) = ⟨b, off + i * 5 + j, none⟩ := fun j => by rw [add_plain, Nat.add_assoc]
        have g0 := g 0 (by omega)
        have g1 := g 1 (by omega)
        have g2 := g 2 (by omega)
        have g3 := g 3 (by omega)
        have g4 := g 4 (by omega)
        rw [e] at g0 g1 g2 g3 g4
        exact ⟨g0, g1, g2, g3, g4⟩
    · intro v hv
      rw [List.mem_map] at hv
      obtain ⟨i, hi, rfl⟩ := hv
      rw [List.mem_range] at hi
      exact ⟨(hf i (by omega)).2.1, (hf i (by omega)).2.2.1⟩
    · rw [hx]
      have := sum_bulk (H := H) (f := f) (D := D) (List.range n) (fun i hi => (hf i (by have := List.mem_range.1 hi; omega)).2.2.2)
      simp only [Rows.uptoBulk]
      omega
end
end Go.Proofs.YtjgdfgpnmmkjfaaGreatDoor

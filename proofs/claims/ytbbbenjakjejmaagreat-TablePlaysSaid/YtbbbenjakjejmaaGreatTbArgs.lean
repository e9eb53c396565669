/- Acts among the arguments: a slice of structs is read. -/
import Derived.Test.YtbbbenjakjejmaaGreatTbLight
import Derived.Deep.Slices
import Derived.Deep.Fields
import Derived.SizedLaws
namespace Go.Proofs.YtbbbenjakjejmaaGreat
set_option linter.unusedVariables false
set_option linter.unusedSimpArgs false
open Go.ChangeShapes Go.WideShapes Go.Deep Go.RowKit

section
variable {H : Type} {enc : TypeId × Value → H} {w : World} {base : Nat} {spare : Nat → Bool} {held : Bool}

theorem weightsAll_mem {P : Program} {e : TypeId} {ds : List (DataW H)} {d : DataW H} (hd : d ∈ ds) {n : Nat} (hn : n ∈ d.weights P e) : n ∈ DataW.weightsAll P e ds := by
  induction ds with
  | nil => simp at hd
  | cons x r ih =>
    simp only [DataW.weightsAll, List.mem_append]
    rw [List.mem_cons] at hd
    rcases hd with rfl | hd
    · exact .inl hn
    · exact .inr (ih hd)

abbrev actD (v : ActV) : DataW H := .agg [.lit (.int .i64 v.k), .lit (.int .i64 v.a), .lit (.string v.s), .lit (.string v.t)]
abbrev actC (v : ActV) : List Value := [.int .i64 v.k, .int .i64 v.a, .string ⟨v.s.toArray⟩, .string ⟨v.t.toArray⟩]

theorem act_weights (v : ActV) : v.s.length ∈ (actD (H := H) v).weights Tryz.prog 30 ∧ v.t.length ∈ (actD (H := H) v).weights Tryz.prog 30 := by
  simp [DataW.weights, Tryz.underlying30, DataW.weightsEach]

set_option maxRecDepth 100000 in
theorem open_act {fuel : Nat} {cs : List Value} {x : DataW H × List MemPlace} (h : DataW.trod enc Tryz.prog w base spare held fuel 30 cs = some x) :
    ∃ v : ActV, cs = actC v ∧ x = (actD v, []) ∧ (Lit.int .i64 v.k).wf = true ∧ (Lit.int .i64 v.a).wf = true := by
  obtain ⟨ys, n, _, hx, hlen, hyl, hf⟩ := DataW.trod_struct Tryz.underlying30 h
  have h5 : Tryz.prog.cellsOf 30 = 4 := by kernel_rfl
  have hci : Tryz.prog.cellsOf 3 = 1 := by kernel_rfl
  have hcs : Tryz.prog.cellsOf 9 = 1 := by kernel_rfl
  rw [h5] at hlen
  match cs, hlen with
  | [c0, c1, c2, c3], _ =>
    match ys, hyl with
    | [y0, y1, y2, y3], _ =>
      have f0 : DataW.trod enc Tryz.prog w base spare held n 3 (([c0, c1, c2, c3].drop 0).take (Tryz.prog.cellsOf 3)) = some y0 := hf 0 _ rfl
      rw [hci] at f0
      have f0 : DataW.trod enc Tryz.prog w base spare held n 3 [c0] = some y0 := f0
      have f1 : DataW.trod enc Tryz.prog w base spare held n 3 (([c0, c1, c2, c3].drop 1).take (Tryz.prog.cellsOf 3)) = some y1 := hf 1 _ rfl
      rw [hci] at f1
      have f1 : DataW.trod enc Tryz.prog w base spare held n 3 [c1] = some y1 := f1
      have f2 : DataW.trod enc Tryz.prog w base spare held n 9 (([c0, c1, c2, c3].drop 2).take (Tryz.prog.cellsOf 9)) = some y2 := hf 2 _ rfl
      rw [hcs] at f2
      have f2 : DataW.trod enc Tryz.prog w base spare held n 9 [c2] = some y2 := f2
      have f3 : DataW.trod enc Tryz.prog w base spare held n 9 (([c0, c1, c2, c3].drop 3).take (Tryz.prog.cellsOf 9)) = some y3 := hf 3 _ rfl
      rw [hcs] at f3
      have f3 : DataW.trod enc Tryz.prog w base spare held n 9 [c3] = some y3 := f3
      obtain ⟨k, e0, r0, w0⟩ := DataW.trod_int Tryz.underlying3 f0
      obtain ⟨a, e1, r1, w1⟩ := DataW.trod_int Tryz.underlying3 f1
      obtain ⟨s, e2, r2, w2⟩ := DataW.trod_string Tryz.underlying9 f2
      obtain ⟨t, e3, r3, w3⟩ := DataW.trod_string Tryz.underlying9 f3
      simp only [List.cons.injEq, and_true] at e0 e1 e2 e3
      subst e0 e1 e2 e3 r0 r1 r2 r3
      refine ⟨⟨k, a, s.data.toList, t.data.toList⟩, rfl, ?_, w0, w1⟩
      rw [hx]; rfl

set_option maxRecDepth 100000 in
theorem open_acts {fuel : Nat} {ao : Option Addr} {n cap : Nat} {x : DataW H × List MemPlace} (h : DataW.trod enc Tryz.prog w 0 (fun _ => true) held fuel 22 [.slice ao n cap] = some x)
    (hlt : ∀ p ∈ x.2, p.block < w.heap.size) (hz : ∀ m ∈ x.1.weights Tryz.prog 22, m ≤ reachBytes) :
    ∃ l : List ActV, n = l.length ∧ l.length ≤ 9223372036854775807 ∧ ARow w.heap.size w ao l ∧ ∀ v ∈ l, AOk v := by
  have h5 : Tryz.prog.cellsOf 30 = 4 := by kernel_rfl
  rcases open_slice Tryz.underlying22 h with ⟨hcs, hx⟩ | ⟨a, len, cap', m, n', D, Pl, hcs, hb, hl, hm, hmm, hx, hi⟩
  · simp at hcs
    obtain ⟨rfl, rfl, rfl⟩ := hcs
    exact ⟨[], rfl, by simp, fun h => absurd rfl h, by simp⟩
  · simp at hcs
    obtain ⟨rfl, rfl, rfl⟩ := hcs
    simp only [if_true] at hmm
    subst hmm
    have hex : ∀ i, ∃ v : ActV, i < m → w.cells? 0 (a.add (i * 4)) 4 = some (actC v) ∧ (D i, Pl i) = (actD v, []) ∧ (Lit.int .i64 v.k).wf = true ∧ (Lit.int .i64 v.a).wf = true := by
      intro i
      by_cases him : i < m
      · obtain ⟨cs', hc, ht⟩ := hi i him
        rw [h5] at hc
        obtain ⟨v, rfl, hxv, q1, q2⟩ := open_act ht
        exact ⟨v, fun _ => ⟨hc, hxv, q1, q2⟩⟩
      · exact ⟨⟨0, 0, [], []⟩, fun h => absurd h him⟩
    obtain ⟨f, hf⟩ := Classical.axiomOfChoice hex
    have hcell : ∀ i, i < m → ∀ j, j < 4 → w.cell? (a.add (i * 4 + j)) = (actC (f i))[j]? := fun i him j hj => by
      obtain ⟨_, _, h3⟩ := World.cells?_some (hf i him).1
      rw [← Go.Deep.add_add]; exact h3 j hj
    refine ⟨(List.range n).map f, by simp, by simp; unfold maxLen at hm; omega, fun hne => ?_, ?_⟩
    · have hn0 : 0 < n := by
        rcases Nat.eq_zero_or_pos n with h | h
        · subst h; simp at hne
        · exact h
      obtain ⟨b, off, spot⟩ := a
      have hsp : spot = none := by
        have := hcell 0 (by omega) 0 (by omega)
        simpa [Addr.add] using World.cell?_spot this
      subst hsp
      refine ⟨b, off, rfl, ?_, fun i hi => ?_⟩
      · refine hlt (.cell b off) ?_
        rw [hx, h5]
        exact List.mem_append.2 (.inl (MemPlace.mem_row.2 ⟨0, by omega, by simp⟩))
      · simp at hi
        have g := hcell i (by omega)
        simp only [List.getElem_map, List.getElem_range]
        have e : ∀ j, (⟨b, off, none⟩ : Addr).add (i * 4 + j) = ⟨b, off + i * 4 + j, none⟩ := fun j => by rw [add_plain, Nat.add_assoc]
        have g0 := g 0 (by omega)
        have g1 := g 1 (by omega)
        have g2 := g 2 (by omega)
        have g3 := g 3 (by omega)
        rw [e] at g0 g1 g2 g3
        exact ⟨g0, g1, g2, g3⟩
    · intro v hv
      rw [List.mem_map] at hv
      obtain ⟨i, hi, rfl⟩ := hv
      rw [List.mem_range] at hi
      obtain ⟨_, hd, q1, q2⟩ := hf i (by omega)
      simp only [Prod.mk.injEq] at hd
      have hw : ∀ k ∈ (D i).weights Tryz.prog 30, k ≤ reachBytes := fun k hk => hz k (by
        rw [hx]
        simp only [DataW.weights, Tryz.underlying22, List.mem_cons, List.mem_append]
        exact .inr (.inl (weightsAll_mem (List.mem_map.2 ⟨i, List.mem_range.2 hi, rfl⟩) hk)))
      rw [hd.1] at hw
      have hr : reachBytes ≤ 140737488355328 := by decide
      exact ⟨q1, q2, Nat.le_trans (hw _ (act_weights _).1) hr, Nat.le_trans (hw _ (act_weights _).2) hr⟩
end
end Go.Proofs.YtbbbenjakjejmaaGreat

/- The reader of scripts: tokens put together: a first text. The reader of scripts: what is plain becomes a token (parts$1). -/
import Derived.Test.YteojlmpipfajoaaGreatDoorTwM
import Derived.Deep.AppendLies
import Derived.Deep.RegionHeld3
import Derived.Deep.RegionLaw
namespace Go.Proofs.YteojlmpipfajoaaGreatDoor
set_option linter.unusedVariables false
set_option linter.unusedSimpArgs false
open Go.RowKit
theorem infoTok : (Tryz.prog.info? 72).map (fun i => (i.zero, i.size, i.bytes)) = some (some (.agg #[.int .i64 0, .string ⟨#[]⟩, .bool false, .slice none 0 0]), 4, 56) := by kernel_rfl
def TksO : Obj := .cells #[.slice none 0 0] 150 (0, 0)
/-- The tokens are those of a text. -/
def TksR (tb : Nat) (x : Bs) (w w' : World) : Prop := ∃ g c, w'.heap[tb]? = some (.cells #[.slice (some ⟨g, 0, none⟩) 1 c] 150 (0, 0)) ∧ w.heap.size ≤ g ∧ TokAt w' (.slice (some ⟨g, 0, none⟩) 1 c) x ∧ Kp [tb] w w'
theorem tok_row {w : World} {B g cap n : Nat} {e : TypeId} {a b c d : Value} (h : w.ownsRow B e 4 (.slice (some ⟨g, 0, none⟩) n cap) 1 [a, b, c, d]) : w.cell? ⟨g, 0, none⟩ = some a ∧ w.cell? ⟨g, 1, none⟩ = some b ∧ w.cell? ⟨g, 2, none⟩ = some c ∧ w.cell? ⟨g, 3, none⟩ = some d ∧ (∀ i, w.frozen? ⟨g, i, none⟩ = false) ∧ B ≤ g ∧ 1 ≤ cap := by
  rcases h.2 with ⟨h0, _⟩ | ⟨g', cap', cur, he, hB, hg, h1, h2, h3, h4⟩
  · cases h0
  · cases he
    have h5 : cur.toList.take 4 = [a, b, c, d] := h4
    have hc : ∀ j v, [a, b, c, d][j]? = some v → w.cell? ⟨g, j, none⟩ = some v := fun j v hj => by
      simp only [World.cell?, hg]
      have hj4 : j < 4 := by
        rcases Nat.lt_or_ge j 4 with h | h
        · exact h
        · rw [List.getElem?_eq_none (by simpa using h)] at hj; cases hj
      rw [← h5, List.getElem?_take, if_pos hj4] at hj
      simpa using hj
    exact ⟨hc 0 a rfl, hc 1 b rfl, hc 2 c rfl, hc 3 d rfl, fun i => by simp [World.frozen?, hg], hB, by omega⟩
/-- What the appending reads: the token, and the head of the tokens. -/
def AdB (tb B : Nat) (x : Bs) (W : World) : Prop := W.cell? ⟨B, 0, none⟩ = some (.int .i64 1) ∧ W.cell? ⟨B, 1, none⟩ = some (.string ⟨x.toArray⟩) ∧ W.cell? ⟨B, 2, none⟩ = some (.bool false) ∧ W.cell? ⟨B, 3, none⟩ = some (.slice none 0 0) ∧ W.cell? ⟨tb, 0, none⟩ = some (.slice none 0 0) ∧ W.frozen? ⟨tb, 0, none⟩ = false
theorem AdB.of {tb B : Nat} {x : Bs} {W W' : World} (hb1 : W'.heap[tb]? = W.heap[tb]?) (hb2 : W'.heap[B]? = W.heap[B]?) (h : AdB tb B x W) : AdB tb B x W' := by
  obtain ⟨a2, a3, a4, a5, a1, a6⟩ := h
  have hc : ∀ j, W'.cell? ⟨tb, j, none⟩ = W.cell? ⟨tb, j, none⟩ := fun j => by simp only [World.cell?, hb1]
  have hd : ∀ j, W'.cell? ⟨B, j, none⟩ = W.cell? ⟨B, j, none⟩ := fun j => by simp only [World.cell?, hb2]
  exact ⟨by rw [hd]; exact a2, by rw [hd]; exact a3, by rw [hd]; exact a4, by rw [hd]; exact a5, by rw [hc]; exact a1, by simp only [World.frozen?, hb1]; exact a6⟩
theorem set4_tok {g : Nat} {a b c d : Value} {x : Bs} {W : World} (f0 : W.cell? ⟨g, 0, none⟩ = some a) (f1 : W.cell? ⟨g, 1, none⟩ = some b) (f2 : W.cell? ⟨g, 2, none⟩ = some c) (f3 : W.cell? ⟨g, 3, none⟩ = some d) :
    ((((W.setCell ⟨g, 0, none⟩ (.int .i64 1)).setCell ⟨g, 1, none⟩ (.string ⟨x.toArray⟩)).setCell ⟨g, 2, none⟩ (.bool false)).setCell ⟨g, 3, none⟩ (.slice none 0 0)).cell? ⟨g, 0, none⟩ = some (.int .i64 1) ∧
    ((((W.setCell ⟨g, 0, none⟩ (.int .i64 1)).setCell ⟨g, 1, none⟩ (.string ⟨x.toArray⟩)).setCell ⟨g, 2, none⟩ (.bool false)).setCell ⟨g, 3, none⟩ (.slice none 0 0)).cell? ⟨g, 1, none⟩ = some (.string ⟨x.toArray⟩) ∧
    ((((W.setCell ⟨g, 0, none⟩ (.int .i64 1)).setCell ⟨g, 1, none⟩ (.string ⟨x.toArray⟩)).setCell ⟨g, 2, none⟩ (.bool false)).setCell ⟨g, 3, none⟩ (.slice none 0 0)).cell? ⟨g, 2, none⟩ = some (.bool false) ∧
    ((((W.setCell ⟨g, 0, none⟩ (.int .i64 1)).setCell ⟨g, 1, none⟩ (.string ⟨x.toArray⟩)).setCell ⟨g, 2, none⟩ (.bool false)).setCell ⟨g, 3, none⟩ (.slice none 0 0)).cell? ⟨g, 3, none⟩ = some (.slice none 0 0) := by
  refine ⟨?_, ?_, ?_, ?_⟩ <;> simp [go_sem, f0, f1, f2, f3]
theorem add_done {tb g cap : Nat} {a b c d : Value} {x : Bs} {w w1 : World} (h1 : w1.heap[tb]? = some TksO) (hK : Kp [tb] w w1) (f0 : w1.cell? ⟨g, 0, none⟩ = some a) (f1 : w1.cell? ⟨g, 1, none⟩ = some b) (f2 : w1.cell? ⟨g, 2, none⟩ = some c) (f3 : w1.cell? ⟨g, 3, none⟩ = some d) (hgt : tb ≠ g) (hng : w.heap.size ≤ g) (hgl : g < w1.heap.size) (hcp : 1 ≤ cap) :
    TksR tb x w (((((w1.setCell ⟨g, 0, none⟩ (.int .i64 1)).setCell ⟨g, 1, none⟩ (.string ⟨x.toArray⟩)).setCell ⟨g, 2, none⟩ (.bool false)).setCell ⟨g, 3, none⟩ (.slice none 0 0)).setCell ⟨tb, 0, none⟩ (.slice (some ⟨g, 0, none⟩) 1 cap)) ∧
    TksR tb x w (((((w1.setCell ⟨tb, 0, none⟩ (.slice (some ⟨g, 0, none⟩) 1 cap)).setCell ⟨g, 0, none⟩ (.int .i64 1)).setCell ⟨g, 1, none⟩ (.string ⟨x.toArray⟩)).setCell ⟨g, 2, none⟩ (.bool false)).setCell ⟨g, 3, none⟩ (.slice none 0 0)) := by
  have htl : tb < w1.heap.size := (Array.getElem?_eq_some_iff.1 h1).1
  have hc : ∀ {W W' : World}, W'.heap[g]? = W.heap[g]? → ∀ j, W'.cell? ⟨g, j, none⟩ = W.cell? ⟨g, j, none⟩ := fun e j => by simp only [World.cell?, e]
  have hk4 : ∀ W : World, Kp [g] W ((((W.setCell ⟨g, 0, none⟩ (.int .i64 1)).setCell ⟨g, 1, none⟩ (.string ⟨x.toArray⟩)).setCell ⟨g, 2, none⟩ (.bool false)).setCell ⟨g, 3, none⟩ (.slice none 0 0)) := fun W =>
    ((((Kp.refl [g] W).setCell g 0 _ (.inl (by simp))).setCell g 1 _ (.inl (by simp))).setCell g 2 _ (.inl (by simp))).setCell g 3 _ (.inl (by simp))
  have hq4 := @set4_tok g
  unfold TksO at h1
  constructor
  · have q := hq4 (x := x) f0 f1 f2 f3
    have k4 := hk4 w1
    have hKw : Kp [tb] w _ := hK.trans k4 (by simp; exact .inr hng)
    generalize ((((w1.setCell ⟨g, 0, none⟩ (.int .i64 1)).setCell ⟨g, 1, none⟩ (.string ⟨x.toArray⟩)).setCell ⟨g, 2, none⟩ (.bool false)).setCell ⟨g, 3, none⟩ (.slice none 0 0)) = W4 at *
    have e := Below.heap_setCell W4 ⟨tb, 0, none⟩ (.slice (some ⟨g, 0, none⟩) 1 cap) g (Ne.symm hgt)
    have hl : g < (W4.setCell ⟨tb, 0, none⟩ (.slice (some ⟨g, 0, none⟩) 1 cap)).heap.size := by have := k4.size; simp [World.setCell]; omega
    exact ⟨g, cap, heap_setCell_same W4 tb 0 _ _ _ ((k4.block tb htl (by simpa using hgt)).trans h1), hng, ⟨g, cap, rfl, hcp, hl, (hc e 0).trans q.1, (hc e 1).trans q.2.1, (hc e 2).trans q.2.2.1, (hc e 3).trans q.2.2.2⟩, hKw.setCell tb 0 _ (.inl (by simp))⟩
  · have e := Below.heap_setCell w1 ⟨tb, 0, none⟩ (.slice (some ⟨g, 0, none⟩) 1 cap) g (Ne.symm hgt)
    have hT := heap_setCell_same w1 tb 0 _ _ (.slice (some ⟨g, 0, none⟩) 1 cap) h1
    have hKt : Kp [tb] w (w1.setCell ⟨tb, 0, none⟩ (.slice (some ⟨g, 0, none⟩) 1 cap)) := hK.setCell tb 0 _ (.inl (by simp))
    have hl0 : (w1.setCell ⟨tb, 0, none⟩ (.slice (some ⟨g, 0, none⟩) 1 cap)).heap.size = w1.heap.size := by simp [World.setCell]
    have g0 := (hc e 0).trans f0
    have g1 := (hc e 1).trans f1
    have g2 := (hc e 2).trans f2
    have g3 := (hc e 3).trans f3
    generalize w1.setCell ⟨tb, 0, none⟩ (.slice (some ⟨g, 0, none⟩) 1 cap) = W1 at *
    have q := hq4 (x := x) g0 g1 g2 g3
    have k4 := hk4 W1
    have hKw : Kp [tb] w _ := hKt.trans k4 (by simp; exact .inr hng)
    exact ⟨g, cap, (k4.block tb (by omega) (by simpa using hgt)).trans hT, hng, ⟨g, cap, rfl, hcp, by have := k4.size; omega, q.1, q.2.1, q.2.2.1, q.2.2.2⟩, hKw⟩
set_option maxRecDepth 100000 in
set_option maxHeartbeats 6400000 in
theorem add_any {tb g0 c0 : Nat} {x : Bs} {w : World} (h : w.heap[tb]? = some TksO) (ht : TokAt w (.slice (some ⟨g0, 0, none⟩) 1 c0) x) :
    Calls Tryz.prog 91 #[.pointer (some ⟨tb, 0, none⟩), .slice (some ⟨g0, 0, none⟩) 1 c0] w fun e w' => e = .returned (.tuple #[]) ∧ TksR tb x w w' := by
  have htl : tb < w.heap.size := (Array.getElem?_eq_some_iff.1 h).1
  obtain ⟨i0, e0, e1, e2, e3⟩ := info_parts infoTok
  obtain ⟨g, c, he, hcc, hgl, t0, t1, t2, t3⟩ := ht.ex
  cases he
  have hh : w.cell? ⟨tb, 0, none⟩ = some (.slice none 0 0) := by unfold TksO at h; simp only [World.cell?, h]; rfl
  have hfz : w.frozen? ⟨tb, 0, none⟩ = false := by unfold TksO at h; simp [World.frozen?, h]
  have HH := Lib.hid h
  clear h ht
  go_enter Tryz.func91, Tryz.ntmps91
  go_wp2_with fail
  go_loopg [5, 6, 9] 1 (fun g _ _ i wr => (g = 1 ∧ i = .int .i64 0 ∧ w = wr) ∨ (g = 0 ∧ i = .int .i64 1 ∧ TksR tb x w wr))
  case atStart => exact .inl ⟨rfl, rfl, rfl⟩
  case round =>
    rcases hrel with ⟨rfl, rfl, rfl⟩ | ⟨rfl, rfl, hT⟩
    · go_wp2_with fail
      generalize hwx : w.alloc (.cells #[.int .i64 1, .string ⟨x.toArray⟩, .bool false, .slice none 0 0] 72) = wx
      obtain ⟨B, hB⟩ : ∃ B, w.heap.size = B := ⟨_, rfl⟩
      have hbx : Below B w wx := by rw [← hwx, ← hB]; exact (Below.refl _ _).alloc (Nat.le_refl _) _
      have hxB : wx.heap[B]? = some (.cells #[.int .i64 1, .string ⟨x.toArray⟩, .bool false, .slice none 0 0] 72 (0, 0)) := by rw [← hwx, ← hB]; exact heap_alloc_new w _
      have hxs : B + 1 ≤ wx.heap.size := by rw [← hwx, ← hB]; simp
      rw [hB] at htl hgl ⊢
      have x0 : wx.cell? ⟨B, 0, none⟩ = some (.int .i64 1) := by simp only [World.cell?, hxB]; rfl
      have x1 : wx.cell? ⟨B, 1, none⟩ = some (.string ⟨x.toArray⟩) := by simp only [World.cell?, hxB]; rfl
      have x2 : wx.cell? ⟨B, 2, none⟩ = some (.bool false) := by simp only [World.cell?, hxB]; rfl
      have x3 : wx.cell? ⟨B, 3, none⟩ = some (.slice none 0 0) := by simp only [World.cell?, hxB]; rfl
      have xh : wx.cell? ⟨tb, 0, none⟩ = some (.slice none 0 0) := (hbx.cell (p := ⟨tb, 0, none⟩) htl).trans hh
      have xf : wx.frozen? ⟨tb, 0, none⟩ = false := (hbx.frozen (p := ⟨tb, 0, none⟩) htl).trans hfz
      have HBX := Lib.hid (And.intro hbx (And.intro hxB hB))
      obtain ⟨n, hn⟩ : ∃ n, wx.heap.size = n := ⟨_, rfl⟩
      have HNX := Lib.hid hn
      rw [hn] at hxs
      have hns : n ≤ wx.heap.size := by omega
      have HAB := Lib.hid (show AdB tb B x wx from ⟨x0, x1, x2, x3, xh, xf⟩)
      have hax : ∀ o : Obj, AdB tb B x (wx.alloc o) := fun o => AdB.of (Below.heap_alloc _ _ _ (by omega)) (Below.heap_alloc _ _ _ (by omega)) HAB.out
      have a0 : ∀ o : Obj, (wx.alloc o).cell? ⟨B, 0, none⟩ = some (.int .i64 1) := fun o => (hax o).1
      have a1 : ∀ o : Obj, (wx.alloc o).cell? ⟨B, 1, none⟩ = some (.string ⟨x.toArray⟩) := fun o => (hax o).2.1
      have a2 : ∀ o : Obj, (wx.alloc o).cell? ⟨B, 2, none⟩ = some (.bool false) := fun o => (hax o).2.2.1
      have a3 : ∀ o : Obj, (wx.alloc o).cell? ⟨B, 3, none⟩ = some (.slice none 0 0) := fun o => (hax o).2.2.2.1
      have a4 : ∀ o : Obj, (wx.alloc o).cell? ⟨tb, 0, none⟩ = some (.slice none 0 0) := fun o => (hax o).2.2.2.2.1
      clear hax
      clear hbx hxB hwx hB hn hh hfz t0 t1 t2 t3
      go_region_law ((refine step_append_lies _ rfl (.tmp 54) (.tmp 57) 39 (by rfl) n 72 i0 (.agg #[.int .i64 0, .string ⟨#[]⟩, .bool false, .slice none 0 0]) 4 56 Tryz.underlying39 e0 e1 e2 e3 rfl (by decide) _ 0 [] (by rfl) (World.ownsRow_nil _ _ _ _) ⟨wx.heap.size, 0, none⟩ 1 1 [.int .i64 0, .string ⟨#[]⟩, .bool false, .slice none 0 0] (by rfl) rfl (World.news_of_block (cs := #[.int .i64 0, .string ⟨#[]⟩, .bool false, .slice none 0 0]) (heap_alloc_new _ _)) (by simp [Value.oneCell']) (by decide) (by unfold maxLen; omega) (by omega) (by simp <;> omega) (wx.heap.size + 1) (by simp) ?_; intro g cap w1 hown1 hgrow hat hlt; obtain ⟨f0, f1, f2, f3, ff, hng, hcp⟩ := tok_row hown1; have ff0 := ff 0; have ff1 := ff 1; have ff2 := ff 2; have ff3 := ff 3; have hgt : tb ≠ g := (by omega); have hgB : B ≠ g := (by omega); have HG := Lib.hid (And.intro hown1 (And.intro hgrow hat)); have hb1 : w1.heap[tb]? = wx.heap[tb]? := (hgrow.block tb (by simp; omega) (by simp [Value.ownBlock])).trans (Below.heap_alloc _ _ _ (by show _ < wx.heap.size; omega)); have hb2 : w1.heap[B]? = wx.heap[B]? := (hgrow.block B (by simp; omega) (by simp [Value.ownBlock])).trans (Below.heap_alloc _ _ _ (by show _ < wx.heap.size; omega)); obtain ⟨b0, b1, b2, b3, bh, bf⟩ := AdB.of hb1 hb2 HAB.out; have hkw : Kp [] wx w1 := (⟨hgrow.os, hgrow.tape, hgrow.output, (by have := hgrow.size; simp at this; omega), fun k hk _ => (hgrow.block k (by simp; omega) (by simp [Value.ownBlock])).trans (Below.heap_alloc _ _ _ hk)⟩); have HKW := Lib.hid hkw; clear ff hown1 hat hgrow hb1 hb2 hkw))
      all_goals
        have hK : Kp [tb] w w1 := by
          obtain ⟨q1, q2, q3⟩ := HBX.out
          have hk0 : Kp [] w wx := kp_of_below (by rw [q3]; exact q1)
          exact ((hk0.mono (D' := [tb]) (by simp)).trans HKW.out (by simp))
        have h1 : w1.heap[tb]? = some TksO := by
          obtain ⟨q1, q2, q3⟩ := HBX.out
          have hk0 : Kp [] w wx := kp_of_below (by rw [q3]; exact q1)
          exact ((hk0.trans HKW.out (by simp)).block tb (by rw [q3]; exact htl) (by simp)).trans HH.out
        have HD := Lib.hid (add_done (x := x) h1 hK f0 f1 f2 f3 hgt (by have := HBX.out.2.2; omega) hlt hcp)
        clear hK h1
        go_wp2_with fail
        go_roundg 0
        case measure => omega
        case rel => exact .inr ⟨rfl, rfl, by first | (with_reducible exact HD.out.1) | (with_reducible exact HD.out.2)⟩
    · have HT := Lib.hid hT
      clear hT
      go_wp2_with fail
      go_end0
      exact ⟨rfl, HT.out⟩
end Go.Proofs.YteojlmpipfajoaaGreatDoor
namespace Go.Proofs.YteojlmpipfajoaaGreatDoor
set_option linter.unusedVariables false
set_option linter.unusedSimpArgs false
open Go.RowKit
theorem IsB.cells {B b : Nat} {bs : List Value} {w : World} (h : IsB B b bs w) : ∃ p v, w.heap[b]? = some (.cells #[p, v] 54 (0, 0)) := by
  rcases h with ⟨_, v, h, _⟩ | ⟨_, v, h, _⟩
  · exact ⟨_, v, h⟩
  · exact ⟨_, v, h⟩
theorem reset_any {b : Nat} {p v : Value} {w : World} (h : w.heap[b]? = some (.cells #[p, v] 54 (0, 0))) :
    Calls Tryz.prog 93 #[.pointer (some ⟨b, 0, none⟩)] w fun e w' => e = .returned (.tuple #[]) ∧ Kp [b] w w' := by
  have c0 : w.cell? ⟨b, 0, none⟩ = some p := by simp only [World.cell?, h]; rfl
  have c1 : w.cell? ⟨b, 1, none⟩ = some v := by simp only [World.cell?, h]; rfl
  have f0 : w.frozen? ⟨b, 0, none⟩ = false := by simp [World.frozen?, h]
  have f1 : w.frozen? ⟨b, 1, none⟩ = false := by simp [World.frozen?, h]
  clear h
  go_enter Tryz.func93, Tryz.ntmps93
  go_wp2_with fail
  go_end0
  exact ⟨rfl, ((Kp.refl _ w).setCell b 0 _ (.inl (by simp))).setCell b 1 _ (.inl (by simp))⟩
theorem flush_tb {tb bb : Nat} {w w2 w3 : World} (htb : tb < bb) (hbs : bb < w.heap.size) (h : w.heap[tb]? = some TksO) (h2 : Below bb w w2) (h3 : Below w2.heap.size w2 w3) : w3.heap[tb]? = some TksO :=
  (h3.block tb (by have := h2.size; omega)).trans ((h2.block tb htb).trans h)
theorem flush_bb {tb bb : Nat} {x : Bs} {w w2 w3 w4 : World} {bs : List Value} (htb : tb < bb) (hbs : bb < w.heap.size) (hB : IsB bb bb bs w2) (h2 : Below bb w w2) (h3 : Below w2.heap.size w2 w3) (h4 : TksR tb x w3 w4) : ∃ p v, w4.heap[bb]? = some (.cells #[p, v] 54 (0, 0)) := by
  obtain ⟨p, v, h⟩ := hB.cells
  obtain ⟨g, c, _, _, _, q⟩ := h4
  have s2 := h2.size
  have s3 := h3.size
  exact ⟨p, v, (q.block bb (by omega) (by simp; omega)).trans ((h3.block bb (by omega)).trans h)⟩
/-- What is plain is a token of its own; the builder is empty again. -/
theorem flush_any {tb bb : Nat} {x : Bs} {w : World} (hx : x ≠ []) (htb : tb < bb) (h : w.heap[tb]? = some TksO) (hB : IsB bb bb (Lib.byteCells x) w) :
    Calls Tryz.prog 90 #[.pointer (some ⟨bb, 0, none⟩), .pointer (some ⟨tb, 0, none⟩)] w fun e w' => e = .returned (.tuple #[]) ∧ (∃ g c, w'.heap[tb]? = some (.cells #[.slice (some ⟨g, 0, none⟩) 1 c] 150 (0, 0)) ∧ bb < g ∧ TokAt w' (.slice (some ⟨g, 0, none⟩) 1 c) x) ∧ Below tb w w' := by
  have hbs : bb < w.heap.size := by obtain ⟨p, v, h⟩ := hB.cells; exact (Array.getElem?_eq_some_iff.1 h).1
  have LE := Lib.hid (Tryz.Builder_Len_f bb bb (Lib.byteCells x) w hB)
  have ST := Lib.hid (Tryz.Builder_String_any_f bb bb x w hB (by omega))
  have LI := Lib.hid (fun W => literal_any x W)
  have hlen : (Lib.byteCells x).length = x.length := byteCells_len x
  have hpos : 0 < x.length := List.length_pos_iff.2 hx
  rw [hlen] at LE
  obtain ⟨n, hn⟩ : ∃ n, x.length = n := ⟨_, rfl⟩
  rw [hn] at LE hpos
  have HTK := Lib.hid h
  clear h hB hx hlen hn
  go_enter Tryz.func90, Tryz.ntmps90
  have AD := Lib.hid (fun (W : World) g0 (hW : W.heap[tb]? = some TksO) (hT : TokAt W (.slice (some ⟨g0, 0, none⟩) 1 1) x) => add_any hW hT)
  have RS := Lib.hid (fun (W : World) p v (hW : W.heap[bb]? = some (.cells #[p, v] 54 (0, 0))) => reset_any hW)
  go_wp2_with (first | (go_at_call 21; refine LE.out.mono ?_; rintro e w1 ⟨rfl, rfl⟩) | (go_at_call 22; refine ST.out.mono ?_; rintro e w2 ⟨rfl, hB2, hb2⟩; have H2 := Lib.hid (And.intro hB2 hb2); clear hB2 hb2) | (go_at_call 92; refine (LI.out _).mono ?_; rintro e w3 ⟨rfl, ht3, hb3⟩; have H3 := Lib.hid (And.intro ht3 hb3); clear ht3 hb3; have HT3 := Lib.hid (flush_tb htb hbs HTK.out H2.out.2 H3.out.2)) | (go_at_call 91; refine (AD.out _ _ HT3.out H3.out.1).mono ?_; rintro e w4 ⟨rfl, hT4⟩; have H4 := Lib.hid hT4; clear hT4; obtain ⟨bp, bv, hbc⟩ := flush_bb htb hbs H2.out.1 H2.out.2 H3.out.2 H4.out; have HBC := Lib.hid hbc; clear hbc) | (go_at_call 93; refine (RS.out _ _ _ HBC.out).mono ?_; rintro e w5 ⟨rfl, hk5⟩; have H5 := Lib.hid hk5; clear hk5))
  go_end0
  refine ⟨rfl, ?_⟩
  obtain ⟨g, c, q1, q2, q3, q4⟩ := H4.out
  have hk := H5.out
  have s2 := H2.out.2.size
  have s3 := H3.out.2.size
  have htl : tb < w4.heap.size := (Array.getElem?_eq_some_iff.1 q1).1
  refine ⟨⟨g, c, (hk.block tb htl (by simp; omega)).trans q1, by omega, q3.kp hk (fun g' c' n' e => by cases e; simp; omega)⟩, ?_⟩
  exact ((((H2.out.2.mono (by omega)).trans (H3.out.2.mono (by omega))).trans (q4.below (by omega) (by simp))).trans (hk.below (by have := q4.size; omega) (by simp; omega)))
end Go.Proofs.YteojlmpipfajoaaGreatDoor

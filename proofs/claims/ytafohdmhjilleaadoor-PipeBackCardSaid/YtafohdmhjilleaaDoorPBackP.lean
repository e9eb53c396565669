/- PipeBack: the plain law (what goes out comes in as it was), and two pipes with filters. -/
import Derived.Test.YtafohdmhjilleaaDoorPFilt2
import Derived.Test.YtafohdmhjilleaaDoorPTwo
namespace Go.Proofs.YtafohdmhjilleaaDoor
set_option linter.unusedVariables false
set_option linter.unusedSimpArgs false
open Go.RowKit Go.Shelf

theorem back_step {mode : Bs} (hm : mode = lfM ∨ mode = crM ∨ mode = crlfM) (c : UInt8) (hc : mode ≠ lfM → c ≠ 13) (R : Bs) : stepP mode true (outM mode [c] ++ R) = some (c, (outM mode [c]).length) := by
  rcases hm with rfl | rfl | rfl
  · have e : outM lfM [c] = [c] := by unfold outM; rw [if_neg (by decide), if_neg (by decide)]
    rw [e]
    show stepP lfM true (c :: R) = _
    rw [stepP_cons, if_neg (by simp)]
    rfl
  · have hc' := hc (by decide)
    by_cases h : c = 10
    · subst h; rfl
    · have e : outM crM [c] = [c] := by unfold outM; rw [if_pos rfl]; simp [h]
      rw [e]
      show stepP crM true (c :: R) = _
      rw [stepP_cons, if_neg (fun h => hc' h.1)]
      rfl
  · have hc' := hc (by decide)
    by_cases h : c = 10
    · subst h; rfl
    · have e : outM crlfM [c] = [c] := by unfold outM; rw [if_neg (by decide), if_pos rfl]; simp [h]
      rw [e]
      show stepP crlfM true (c :: R) = _
      rw [stepP_cons, if_neg (fun h => hc' h.1)]
      rfl
theorem back_law {mode : Bs} (hm : mode = lfM ∨ mode = crM ∨ mode = crlfM) : ∀ s : Bs, (mode ≠ lfM → (13 : UInt8) ∉ s) → bytesL (stepsL mode true (outM mode s)) = s := by
  intro s
  induction s with
  | nil => intro _; rw [outM_nil]; rfl
  | cons c r ih =>
    intro h
    have h1 := back_step hm c (fun hne e => h hne (by simp [e])) (outM mode r)
    rw [show c :: r = [c] ++ r from rfl, outM_append, stepsL_some h1]
    simp only [bytesL, List.map_cons, List.drop_left, List.singleton_append]
    congr 1
    exact ih (fun hne hm => h hne (by simp [hm]))
theorem outF_kind (k : Bool) (s t : Bs) (h : s = t) : outF k s = outF k t := by rw [h]
theorem enc_kinds : ∀ (a b : List (Nat × Bool)) (s : Bs), a.map (·.2) = b.map (·.2) → enc a s = enc b s := by
  intro a
  induction a with
  | nil => intro b s h; cases b with
    | nil => rfl
    | cons y b => simp at h
  | cons x a ih =>
    intro b s h
    cases b with
    | nil => simp at h
    | cons y b =>
      simp only [List.map_cons, List.cons.injEq] at h
      show outF x.2 (enc a s) = outF y.2 (enc b s)
      rw [h.1, ih b s h.2]

/-- A pipe just made, with what lies in its filters' cell. -/
def Pm (mode : Bs) (p : PP) : Prop := p = { madeP mode mode with fv := p.fv }
theorem Pm.fv {mode : Bs} {p : PP} (h : Pm mode p) (v : Value) : Pm mode { p with fv := v } := by
  unfold Pm at *
  rw [h]
theorem writeF_ok {mode : Bs} {p : PP} (h : Pm mode p) (fs : List (Nat × Bool)) (h3 : fs.length ≤ 3) (s : Bs) (hs : s.length ≤ 600) :
    (p.writeF fs s).buffer.length ≤ 2000 ∧ (p.writeF fs s).gone.length ≤ 20000 ∧ (p.writeF fs s).fin ≤ 2000 ∧ (p.writeF fs s).fv = p.fv ∧ ((p.writeF fs s).leaveF fs (p.writeF fs s).buffer.length).gone = enc fs (outM mode s) ∧ ((p.writeF fs s).leaveF fs (p.writeF fs s).buffer.length).fv = p.fv := by
  have hb : p.buffer = [] := by rw [h]; rfl
  have hg : p.gone = [] := by rw [h]; rfl
  have hf : p.fin = 0 := by rw [h]; rfl
  have ho : p.outm = mode := by rw [h]; rfl
  have hl := (outM_len mode s).2
  have hq : (p.put s).buffer = outM mode s := by simp [PP.put, hb, ho]
  have hqg : (p.put s).gone = [] := hg
  have hqf : (p.put s).fin ≤ 2000 := by have := put_fin p s (by omega); rw [hq] at this; omega
  have hqv : (p.put s).fv = p.fv := rfl
  have hz := enc_short fs (outM mode s) h3 0
  rw [List.drop_zero] at hz
  unfold PP.writeF
  generalize p.put s = q at *
  split
  · have e1 : (q.leaveF fs q.buffer.length).buffer = [] := by simp [PP.leaveF]
    have e2 : (q.leaveF fs q.buffer.length).gone = enc fs (outM mode s) := by simp [PP.leaveF, hqg, hq]
    have e3 : (q.leaveF fs q.buffer.length).fin ≤ 2000 := by simp [PP.leaveF]; omega
    refine ⟨by rw [e1]; simp, by rw [e2]; omega, e3, hqv, ?_, hqv⟩
    rw [e1]
    show _ ++ enc fs (List.take _ _) = _
    rw [e1, e2]
    simp [enc_nil]
  · refine ⟨by rw [hq]; omega, by rw [hqg]; simp, hqf, hqv, ?_, hqv⟩
    simp [PP.leaveF, hqg, hq]
/-- Two pipes of the call's own, with their filters. -/
structure BkS (w : World) (b1 b2 : Nat) (p q : PP) (fs1 fs2 : List (Nat × Bool)) (W : World) : Prop where
  at2 : At2 w b1 p b2 q W
  f1 : Fls w.heap.size W p.fv fs1
  f2 : Fls w.heap.size W q.fv fs2
  n1 : fs1 = [] → p.fv = .slice none 0 0
  n2 : fs2 = [] → q.fv = .slice none 0 0
section
variable {w W W' : World} {b1 b2 : Nat} {p p' q q' : PP} {fs1 fs2 fs' : List (Nat × Bool)}
theorem BkS.s1 (h : BkS w b1 b2 p q fs1 fs2 W) (h' : PAt W' b1 p') (hf : Fls w.heap.size W' p'.fv fs') (hn : fs' = [] → p'.fv = .slice none 0 0) (k : Kp [b1] W W') : BkS w b1 b2 p' q fs' fs2 W' :=
  ⟨h.at2.s1 h' k, hf, h.f2.keep k (fun d hd => by simp at hd; subst hd; exact ⟨p, h.at2.p1⟩), hn, h.n2⟩
theorem BkS.s2 (h : BkS w b1 b2 p q fs1 fs2 W) (h' : PAt W' b2 q') (hf : Fls w.heap.size W' q'.fv fs') (hn : fs' = [] → q'.fv = .slice none 0 0) (k : Kp [b2] W W') : BkS w b1 b2 p q' fs1 fs' W' :=
  ⟨h.at2.s2 h' k, h.f1.keep k (fun d hd => by simp at hd; subst hd; exact ⟨q, h.at2.p2⟩), hf, h.n1, hn⟩
def nameK (k : Bool) : Bs := if k then hexM else rotM
theorem Lay_any {B : Nat} {b : Nat} {fs : List (Nat × Bool)} (h : PAt W b p) (hB : B ≤ W.heap.size) (hF : Fls B W p.fv fs) (hn : fs = [] → p.fv = .slice none 0 0) (h3 : fs.length ≤ 2) (k : Bool) :
    Calls Tryd.prog 28 #[.pointer (some ⟨b, 0, none⟩), .string ⟨(nameK k).toArray⟩] W fun e w' => e = .returned (.int .i64 0) ∧ ∃ fv' fb, PAt w' b { p with fv := fv' } ∧ Fls B w' fv' (fs ++ [(fb, k)]) ∧ Kp [b] W w' := by
  by_cases h0 : fs = []
  · subst h0
    cases k
    · exact Lay_rot_nil h hB (hn rfl)
    · exact Lay_hex_nil h hB (hn rfl)
  · obtain ⟨g, cap, hfv, _, _⟩ := fls_cell hF h0
    cases k
    · exact Lay_rot_cel h hB hfv hF rfl (by omega)
    · exact Lay_hex_cel h hB hfv hF rfl (by omega)
theorem lay_1 (h : BkS w b1 b2 p q fs1 fs2 W) (h3 : fs1.length ≤ 2) (k : Bool) :
    Calls Tryd.prog 28 #[.pointer (some ⟨b1, 0, none⟩), .string ⟨(nameK k).toArray⟩] W fun e w' => e = .returned (.int .i64 0) ∧ ∃ v fb, BkS w b1 b2 { p with fv := v } q (fs1 ++ [(fb, k)]) fs2 w' :=
  (Lay_any h.at2.p1 h.at2.below.size h.f1 h.n1 h3 k).mono fun e w' ⟨g1, v, fb, g2, g3, g4⟩ => ⟨g1, v, fb, h.s1 g2 g3 (by simp) g4⟩
theorem lay_2 (h : BkS w b1 b2 p q fs1 fs2 W) (h3 : fs2.length ≤ 2) (k : Bool) :
    Calls Tryd.prog 28 #[.pointer (some ⟨b2, 0, none⟩), .string ⟨(nameK k).toArray⟩] W fun e w' => e = .returned (.int .i64 0) ∧ ∃ v fb, BkS w b1 b2 p { q with fv := v } fs1 (fs2 ++ [(fb, k)]) w' :=
  (Lay_any h.at2.p2 h.at2.below.size h.f2 h.n2 h3 k).mono fun e w' ⟨g1, v, fb, g2, g3, g4⟩ => ⟨g1, v, fb, h.s2 g2 g3 (by simp) g4⟩
theorem bwrite_1 {mode : Bs} (h : BkS w b1 b2 p q fs1 fs2 W) (hp : Pm mode p) (hm : isOutM mode = true) (h3 : fs1.length ≤ 3) (s : Bs) (hs : s.length ≤ 600) :
    Calls Tryd.prog 11 #[.pointer (some ⟨b1, 0, none⟩), .string ⟨s.toArray⟩] W fun e w' => e = .returned (.int .i64 0) ∧ BkS w b1 b2 (p.writeF fs1 s) q fs1 fs2 w' := by
  obtain ⟨_, _, _, hv, _⟩ := writeF_ok hp fs1 h3 s hs
  exact (Write_pf h.at2.p1 h.f1 h.n1 h3 h.at2.max s (by rw [show p.outm = mode by rw [hp]; rfl]; exact hm) (by omega) (by rw [hp]; rfl) (by rw [hp]; rfl) (by rw [hp]; rfl) (by rw [hp]; rfl)).mono fun e w' ⟨g1, g2, g3, g4⟩ => ⟨g1, h.s1 g2 (by rw [hv]; exact g3) (by rw [hv]; exact h.n1) g4⟩
theorem bflush_1 {mode : Bs} (hp : Pm mode p) (h3 : fs1.length ≤ 3) (s : Bs) (hs : s.length ≤ 600) (h : BkS w b1 b2 (p.writeF fs1 s) q fs1 fs2 W) :
    Calls Tryd.prog 13 #[.pointer (some ⟨b1, 0, none⟩)] W fun e w' => e = .returned (.int .i64 0) ∧ ∃ p', p'.gone = enc fs1 (outM mode s) ∧ BkS w b1 b2 p' q fs1 fs2 w' := by
  obtain ⟨l1, l2, l3, hv, hg, hv2⟩ := writeF_ok hp fs1 h3 s hs
  exact (Flush_pf h.at2.p1 h.f1 h.n1 h3 (by omega) (by omega) (by omega)).mono fun e w' ⟨g1, g2, g3, g4⟩ => ⟨g1, _, hg, h.s1 g2 (by rw [hv2, ← hv]; exact g3) (by rw [hv2, ← hv]; exact h.n1) g4⟩
theorem bout_1 (h : BkS w b1 b2 p q fs1 fs2 W) {g : Bs} (hg : p.gone = g) :
    Calls Tryd.prog 15 #[.pointer (some ⟨b1, 0, none⟩)] W fun e w' => e = .returned (.string ⟨g.toArray⟩) ∧ BkS w b1 b2 p.out q fs1 fs2 w' := by
  have h1 := h.at2.p1
  exact (Out_any h1).mono fun e w' ⟨g1, g2, g4⟩ => ⟨by rw [g1, hg], h.s1 g2 (h.f1.keep g4 (fun d hd => by simp at hd; subst hd; exact ⟨p, h1⟩)) h.n1 g4⟩
theorem bfeed_2 {mode : Bs} (h : BkS w b1 b2 p q fs1 fs2 W) (hq : Pm mode q) (h3 : fs2.length ≤ 3) (hk : fs1.map (·.2) = fs2.map (·.2)) (r : Bs) (hr : r.length ≤ 2000) :
    Calls Tryd.prog 17 #[.pointer (some ⟨b2, 0, none⟩), .string ⟨(enc fs1 r).toArray⟩] W fun e w' => e = .returned (.int .i64 0) ∧ BkS w b1 b2 p (q.feed r) fs1 fs2 w' := by
  rw [enc_kinds fs1 fs2 r hk]
  exact (Feed_pf h.at2.p2 h.f2 h.n2 h3 r (by rw [hq]; rfl) (by rw [hq]; rfl) (by omega) (by rw [show q.raw = [] by rw [hq]; rfl]; simp)).mono fun e w' ⟨g1, g2, g3, g4⟩ => ⟨g1, h.s2 g2 g3 h.n2 g4⟩
theorem bclose_2 {mode : Bs} {r : Bs} (h : BkS w b1 b2 p (q.feed r) fs1 fs2 W) (hq : Pm mode q) :
    Calls Tryd.prog 18 #[.pointer (some ⟨b2, 0, none⟩)] W fun e w' => e = .returned (.int .i64 0) ∧ BkS w b1 b2 p (q.feed r).close fs1 fs2 w' := by
  have h1 := h.at2.p2
  exact (Close_any h1 (show q.closed = false by rw [hq]; rfl)).mono fun e w' ⟨g1, g2, g4⟩ => ⟨g1, h.s2 g2 (h.f2.keep g4 (fun d hd => by simp at hd; subst hd; exact ⟨_, h1⟩)) h.n2 g4⟩
theorem bread_2 {mode s : Bs} (h : BkS w b1 b2 p (q.feed (outM mode s)).close fs1 fs2 W) (hq : Pm mode q) (hm : mode = lfM ∨ mode = crM ∨ mode = crlfM) (hs : s.length ≤ 600) (h13 : mode ≠ lfM → (13 : UInt8) ∉ s) :
    Calls Tryd.prog 19 #[.pointer (some ⟨b2, 0, none⟩), .int .i64 (-1)] W fun e w' => e = .returned (.tuple #[.string ⟨s.toArray⟩, .int .i64 0]) ∧ Below w.heap.size w w' ∧ MaxIs w' := by
  have hl := (outM_len mode s).2
  have hraw : q.raw = [] := by rw [hq]; rfl
  have hin : q.inm = mode := by rw [hq]; rfl
  have hR : Rd mode (outM mode s) (q.feed (outM mode s)).close [] := ⟨hin, rfl, by simp [PP.close, PP.feed, hraw], 0, by simp [PP.close, PP.feed, hraw, sumN], rfl⟩
  have hall := hR.all.1
  rw [List.nil_append, back_law hm s h13] at hall
  have h1 := h.at2.p2
  refine (Read_any h1 (-1) ?_ ?_).mono fun e w' ⟨g1, g2, g4⟩ => ⟨by rw [g1, hall], (h.at2.s2 g2 g4).below, (h.at2.s2 g2 g4).max⟩
  · show isInM q.inm = true
    rw [hin]
    rcases hm with rfl | rfl | rfl <;> decide
  · simp [PP.close, PP.feed, hraw]; omega
end
end Go.Proofs.YtafohdmhjilleaaDoor

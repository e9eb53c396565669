/- Read, Line of a pipe. -/
import Derived.Test.YtafohdmhjilleaaDoorPThere
namespace Go.Proofs.YtafohdmhjilleaaDoor
set_option linter.unusedVariables false
set_option linter.unusedSimpArgs false
open Go.RowKit Go.Shelf

section
variable {w : World} {b : Nat} {p : PP}
theorem drop_any (h : PAt w b p) (n : Nat) (hn : n ≤ p.raw.length) (hl : p.raw.length ≤ 1000000) : Calls Tryd.prog 37 #[.pointer (some ⟨b, 0, none⟩), .int .i64 (n : Int)] w fun e w' => e = .returned (.tuple #[]) ∧ PAt w' b { p with raw := p.raw.drop n } ∧ Kp [b] w w' := by
  have c5 := h.c5; have f5 := h.fz 5
  have H := Lib.hid h
  have hw0 : (0 : Int) ≤ (n : Int) := by omega
  have hnI : (n : Int) ≤ (p.raw.length : Int) := by omega
  clear h
  go_enter Tryd.func37, Tryd.ntmps37
  go_wp2
  go_end0
  exact ⟨rfl, H.out.set 5 _ { p with raw := p.raw.drop n } rfl, (Kp.refl [b] w).setCell b 5 _ (.inl (by simp))⟩
theorem kp_below {w w' : World} (h : Below w.heap.size w w') : Kp [b] w w' := (kp_of_below h).mono (by simp)
/-- A pipe behind Read. -/
def PP.read (p : PP) (n : Int) : PP := { p with raw := p.raw.drop (sumN (p.taken n false)), eof := p.closed && ((p.raw.drop (sumN (p.taken n false))).isEmpty && (decide (n < 0) || decide (((p.taken n false).length : Int) < n))), blocked := !p.closed && (decide (0 ≤ n) && decide (((p.taken n false).length : Int) < n)) }
theorem taken_le (p : PP) (n : Int) (line : Bool) : sumN (p.taken n line) ≤ p.raw.length ∧ (p.taken n line).length ≤ p.raw.length := by
  have h := tkL_prefix n line (stepsL p.inm p.closed p.raw) 0
  have h1 := sumN_prefix h
  have h2 := h.length_le
  have h3 := steps_le p.inm p.closed p.raw
  unfold PP.taken
  omega
theorem read_end {pr : PP} {r : Bs} {w2 : World} (h2 : PAt w2 b { p with raw := r }) {E B : Bool} (hpr : pr = { p with raw := r, eof := pr.eof, blocked := pr.blocked }) (hE : E = pr.eof) (hB : B = pr.blocked) : PAt ((w2.setCell ⟨b, 8, none⟩ (.bool E)).setCell ⟨b, 9, none⟩ (.bool B)) b pr := by
  rw [hpr, ← hE, ← hB]
  exact (h2.set 8 _ { p with raw := r, eof := E } rfl).set 9 _ { p with raw := r, eof := E, blocked := B } rfl
set_option maxRecDepth 100000 in
set_option maxHeartbeats 1600000 in
theorem Read_any (h : PAt w b p) (n : Int) (hm : isInM p.inm = true) (hs : p.raw.length ≤ 1000000) :
    Calls Tryd.prog 19 #[.pointer (some ⟨b, 0, none⟩), .int .i64 n] w fun e w' => e = .returned (.tuple #[.string ⟨(bytesL (p.taken n false)).toArray⟩, .int .i64 0]) ∧ PAt w' b (p.read n) ∧ Kp [b] w w' := by
  obtain ⟨hle1, hle2⟩ := taken_le p n false
  have HT := Lib.hid (there_any h n false hm hs)
  have hlb : (bytesL (p.taken n false)).length = (p.taken n false).length := bytesL_len _
  have HPR := Lib.hid (show p.read n = { p with raw := p.raw.drop (sumN (p.taken n false)), eof := p.closed && ((p.raw.drop (sumN (p.taken n false))).isEmpty && (decide (n < 0) || decide (((p.taken n false).length : Int) < n))), blocked := !p.closed && (decide (0 ≤ n) && decide (((p.taken n false).length : Int) < n)) } from rfl)
  rw [← hlb] at HPR hle2
  generalize p.read n = pr at *
  clear hlb
  generalize bytesL (p.taken n false) = s at *
  generalize sumN (p.taken n false) = k at *
  have H := Lib.hid h
  have hN := fun W => ptr_nil W b
  have HD := Lib.hid (fun (W : World) (h : PAt W b p) => drop_any h k hle1 hs)
  clear h hm
  go_enter Tryd.func19, Tryd.ntmps19
  go_wp2_with (first | (go_at_call 36; refine HT.out.mono ?_; rintro e w1 ⟨rfl, hb1⟩; replace H := Lib.hid (And.intro (H.out.below hb1 H.out.lt) (kp_below (b := b) hb1))) | (go_at_call 37; refine (HD.out _ H.out.1).mono ?_; rintro e w2 ⟨rfl, h2, hk2⟩; replace H := Lib.hid (And.intro h2 (H.out.2.from hk2)); clear hk2; have c6 := h2.c6; have c5 := h2.c5; have c8 := h2.c8; have c9 := h2.c9; have f8 := h2.fz 8; have f9 := h2.fz 9; clear h2; simp only at c5 c6 c8 c9))
  all_goals
    go_ret2
    refine ⟨rfl, read_end H.out.1 (by rw [HPR.out]) ?_ ?_, (H.out.2.setCell b 8 _ (.inl (by simp))).setCell b 9 _ (.inl (by simp))⟩
  all_goals (rw [HPR.out]; first | rfl | (simp [*]; done) | (simp [*]; omega))
/-- The line that is there, with its line feed. -/
def PP.lineT (p : PP) : List (UInt8 × Nat) := p.taken (-1) true
def PP.whole (p : PP) : Bool := Lib.hasSuffix (bytesL p.lineT) [10]
def PP.told (p : PP) : Bool := p.whole || (p.closed && !(bytesL p.lineT).isEmpty)
def PP.lineS (p : PP) : Bs := if p.told then Lib.trimSuffix (bytesL p.lineT) [10] else []
def PP.line (p : PP) : PP := { p with raw := if p.told then p.raw.drop (sumN p.lineT) else p.raw, eof := p.closed && !p.whole, blocked := !p.closed && !p.told }
set_option maxRecDepth 100000 in
set_option maxHeartbeats 1600000 in
theorem Line_any (h : PAt w b p) (hm : isInM p.inm = true) (hs : p.raw.length ≤ 1000000) :
    Calls Tryd.prog 26 #[.pointer (some ⟨b, 0, none⟩)] w fun e w' => e = .returned (.tuple #[.string ⟨p.lineS.toArray⟩, .bool p.told, .int .i64 0]) ∧ PAt w' b p.line ∧ Kp [b] w w' := by
  obtain ⟨hle1, hle2⟩ := taken_le p (-1) true
  have HT := Lib.hid (there_any h (-1) true hm hs)
  have hlb : (bytesL (p.taken (-1) true)).length = (p.taken (-1) true).length := bytesL_len _
  have HPW : Hid (p.whole = Lib.hasSuffix (bytesL (p.taken (-1) true)) [10]) := rfl
  have HPT : Hid (p.told = (p.whole || (p.closed && !(bytesL (p.taken (-1) true)).isEmpty))) := rfl
  have HPR : Hid (p.line = { p with raw := if p.told then p.raw.drop (sumN (p.taken (-1) true)) else p.raw, eof := p.closed && !p.whole, blocked := !p.closed && !p.told }) := rfl
  have HPS : Hid (p.lineS = if p.told then Lib.trimSuffix (bytesL (p.taken (-1) true)) [10] else []) := rfl
  rw [← hlb] at hle2
  generalize p.line = pr at *
  generalize p.lineS = ls at *
  clear hlb
  generalize bytesL (p.taken (-1) true) = s at *
  generalize sumN (p.taken (-1) true) = k at *
  have HC : Hid (∀ W, Calls Tryd.prog 45 #[.string ⟨s.toArray⟩, .string ⟨#[10]⟩] W fun e w' => e = .returned (.tuple #[.string ⟨(Lib.trimSuffix s [10]).toArray⟩, .bool p.whole]) ∧ w' = W) := by
    intro W
    rw [HPW.out]
    exact Tryd.strings_CutSuffix ⟨s.toArray⟩ ⟨#[10]⟩ W (by show s.length ≤ _; omega)
  clear HPW
  generalize Lib.trimSuffix s [10] = tr at *
  generalize p.told = told at *
  generalize p.whole = whole at *
  have H := Lib.hid h
  have hN := fun W => ptr_nil W b
  have HD := Lib.hid (fun (W : World) (h : PAt W b p) => drop_any h k hle1 hs)
  clear h hm
  cases hcl : p.closed
  · cases whole
    · obtain rfl : told = false := by rw [HPT.out, hcl]; rfl
      clear HPT
      have HCL := Lib.hid hcl
      go_enter Tryd.func26, Tryd.ntmps26
      go_wp2_with (first | (go_at_call 36; refine HT.out.mono ?_; rintro e w1 ⟨rfl, hb1⟩; replace H := Lib.hid (And.intro (H.out.below hb1 H.out.lt) (kp_below (b := b) hb1)); have c6 := H.out.1.c6; rw [HCL.out] at c6; have c8 := H.out.1.c8; have c9 := H.out.1.c9; have f8 := H.out.1.fz 8; have f9 := H.out.1.fz 9; clear hcl) | (go_at_call 45; refine (HC.out _).mono ?_; rintro e w3 ⟨rfl, rfl⟩) | (go_at_call 37; refine (HD.out _ H.out.1).mono ?_; rintro e w2 ⟨rfl, h2, hk2⟩; replace H := Lib.hid (And.intro h2 (H.out.2.from hk2)); clear hk2 c6 c8 c9 f8 f9; have c6 := h2.c6; have c8 := h2.c8; have c9 := h2.c9; have f8 := h2.fz 8; have f9 := h2.fz 9; clear h2; simp only at c6 c8 c9; rw [HCL.out] at c6))
      go_ret3
      refine ⟨by rw [HPS.out]; rfl, read_end (p := p) H.out.1 (by rw [HPR.out]; rfl) (by rw [HPR.out, HCL.out]; rfl) (by rw [HPR.out, HCL.out]; rfl), (H.out.2.setCell b 8 _ (.inl (by simp))).setCell b 9 _ (.inl (by simp))⟩
    · obtain rfl : told = true := by rw [HPT.out, hcl]; rfl
      clear HPT
      have HCL := Lib.hid hcl
      go_enter Tryd.func26, Tryd.ntmps26
      go_wp2_with (first | (go_at_call 36; refine HT.out.mono ?_; rintro e w1 ⟨rfl, hb1⟩; replace H := Lib.hid (And.intro (H.out.below hb1 H.out.lt) (kp_below (b := b) hb1)); have c6 := H.out.1.c6; rw [HCL.out] at c6; have c8 := H.out.1.c8; have c9 := H.out.1.c9; have f8 := H.out.1.fz 8; have f9 := H.out.1.fz 9; clear hcl) | (go_at_call 45; refine (HC.out _).mono ?_; rintro e w3 ⟨rfl, rfl⟩) | (go_at_call 37; refine (HD.out _ H.out.1).mono ?_; rintro e w2 ⟨rfl, h2, hk2⟩; replace H := Lib.hid (And.intro h2 (H.out.2.from hk2)); clear hk2 c6 c8 c9 f8 f9; have c6 := h2.c6; have c8 := h2.c8; have c9 := h2.c9; have f8 := h2.fz 8; have f9 := h2.fz 9; clear h2; simp only at c6 c8 c9; rw [HCL.out] at c6))
      go_ret3
      refine ⟨by rw [HPS.out]; rfl, read_end (p := p) H.out.1 (by rw [HPR.out]; rfl) (by rw [HPR.out, HCL.out]; rfl) (by rw [HPR.out, HCL.out]; rfl), (H.out.2.setCell b 8 _ (.inl (by simp))).setCell b 9 _ (.inl (by simp))⟩
  · cases whole
    · cases hse : s.isEmpty
      · obtain rfl : told = true := by rw [HPT.out, hcl, hse]; rfl
        clear HPT
        have HCL := Lib.hid hcl
        go_enter Tryd.func26, Tryd.ntmps26
        go_wp2_with (first | (go_at_call 36; refine HT.out.mono ?_; rintro e w1 ⟨rfl, hb1⟩; replace H := Lib.hid (And.intro (H.out.below hb1 H.out.lt) (kp_below (b := b) hb1)); have c6 := H.out.1.c6; rw [HCL.out] at c6; have c8 := H.out.1.c8; have c9 := H.out.1.c9; have f8 := H.out.1.fz 8; have f9 := H.out.1.fz 9; clear hcl) | (go_at_call 45; refine (HC.out _).mono ?_; rintro e w3 ⟨rfl, rfl⟩) | (go_at_call 37; refine (HD.out _ H.out.1).mono ?_; rintro e w2 ⟨rfl, h2, hk2⟩; replace H := Lib.hid (And.intro h2 (H.out.2.from hk2)); clear hk2 c6 c8 c9 f8 f9; have c6 := h2.c6; have c8 := h2.c8; have c9 := h2.c9; have f8 := h2.fz 8; have f9 := h2.fz 9; clear h2; simp only at c6 c8 c9; rw [HCL.out] at c6))
        go_ret3
        refine ⟨by rw [HPS.out]; rfl, read_end (p := p) H.out.1 (by rw [HPR.out]; rfl) (by rw [HPR.out, HCL.out]; rfl) (by rw [HPR.out, HCL.out]; rfl), (H.out.2.setCell b 8 _ (.inl (by simp))).setCell b 9 _ (.inl (by simp))⟩
      · obtain rfl : told = false := by rw [HPT.out, hcl, hse]; rfl
        clear HPT
        have HCL := Lib.hid hcl
        go_enter Tryd.func26, Tryd.ntmps26
        go_wp2_with (first | (go_at_call 36; refine HT.out.mono ?_; rintro e w1 ⟨rfl, hb1⟩; replace H := Lib.hid (And.intro (H.out.below hb1 H.out.lt) (kp_below (b := b) hb1)); have c6 := H.out.1.c6; rw [HCL.out] at c6; have c8 := H.out.1.c8; have c9 := H.out.1.c9; have f8 := H.out.1.fz 8; have f9 := H.out.1.fz 9; clear hcl) | (go_at_call 45; refine (HC.out _).mono ?_; rintro e w3 ⟨rfl, rfl⟩) | (go_at_call 37; refine (HD.out _ H.out.1).mono ?_; rintro e w2 ⟨rfl, h2, hk2⟩; replace H := Lib.hid (And.intro h2 (H.out.2.from hk2)); clear hk2 c6 c8 c9 f8 f9; have c6 := h2.c6; have c8 := h2.c8; have c9 := h2.c9; have f8 := h2.fz 8; have f9 := h2.fz 9; clear h2; simp only at c6 c8 c9; rw [HCL.out] at c6))
        go_ret3
        refine ⟨by rw [HPS.out]; rfl, read_end (p := p) H.out.1 (by rw [HPR.out]; rfl) (by rw [HPR.out, HCL.out]; rfl) (by rw [HPR.out, HCL.out]; rfl), (H.out.2.setCell b 8 _ (.inl (by simp))).setCell b 9 _ (.inl (by simp))⟩
    · obtain rfl : told = true := by rw [HPT.out, hcl]; rfl
      clear HPT
      have HCL := Lib.hid hcl
      go_enter Tryd.func26, Tryd.ntmps26
      go_wp2_with (first | (go_at_call 36; refine HT.out.mono ?_; rintro e w1 ⟨rfl, hb1⟩; replace H := Lib.hid (And.intro (H.out.below hb1 H.out.lt) (kp_below (b := b) hb1)); have c6 := H.out.1.c6; rw [HCL.out] at c6; have c8 := H.out.1.c8; have c9 := H.out.1.c9; have f8 := H.out.1.fz 8; have f9 := H.out.1.fz 9; clear hcl) | (go_at_call 45; refine (HC.out _).mono ?_; rintro e w3 ⟨rfl, rfl⟩) | (go_at_call 37; refine (HD.out _ H.out.1).mono ?_; rintro e w2 ⟨rfl, h2, hk2⟩; replace H := Lib.hid (And.intro h2 (H.out.2.from hk2)); clear hk2 c6 c8 c9 f8 f9; have c6 := h2.c6; have c8 := h2.c8; have c9 := h2.c9; have f8 := h2.fz 8; have f9 := h2.fz 9; clear h2; simp only at c6 c8 c9; rw [HCL.out] at c6))
      go_ret3
      refine ⟨by rw [HPS.out]; rfl, read_end (p := p) H.out.1 (by rw [HPR.out]; rfl) (by rw [HPR.out, HCL.out]; rfl) (by rw [HPR.out, HCL.out]; rfl), (H.out.2.setCell b 8 _ (.inl (by simp))).setCell b 9 _ (.inl (by simp))⟩
end
end Go.Proofs.YtafohdmhjilleaaDoor

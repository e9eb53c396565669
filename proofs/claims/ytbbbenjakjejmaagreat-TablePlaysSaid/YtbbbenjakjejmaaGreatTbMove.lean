/- 'move', with its deferred closure; 'Rename', 'Hide', 'Expose'. 'Rename', 'Hide', 'Expose', 'Find', 'FindHidden'. -/
import Derived.Test.YtbbbenjakjejmaaGreatTbFun
import Derived.Defers
namespace Go.Proofs.YtbbbenjakjejmaaGreat
set_option linter.unusedVariables false
set_option linter.unusedSimpArgs false
open Go.RowKit Go.MapKept Go.WideMaps

/-- What 'move' does. -/
def MoveR (S : TS) (was : Bool) (old : Bs) (now : Bool) (new : Bs) (r : Int) (S' : TS) : Prop :=
  (S.nm was old = none ∧ r = 8 ∧ S' = S) ∨ (∃ n k, S.nm was old = some n ∧ S.nm now new = some k ∧ r = 6 ∧ S' = S) ∨ ∃ n, S.nm was old = some n ∧ S.nm now new = none ∧ r = 0 ∧ S' = moveT S n was old now new
section
variable {B tb mn mh mk : Nat} {who : Own} {cb : Nat → Nat}
/-- The deferred closure: one change more. -/
theorem bump_d (u : FrameMode) (w : World) (b e : Nat) (hb : w.cell? ⟨b, 0, none⟩ = some (.pointer (some ⟨tb, 0, none⟩))) (hc : w.cell? ⟨tb, 4, none⟩ = some (.int .i64 (e : Int))) (hz : w.frozen? ⟨tb, 4, none⟩ = false) (he : e ≤ 1000000) :
    CallsD Tryz.prog 56 #[.pointer (some ⟨b, 0, none⟩)] u w fun e' u' w' => u' = u ∧ (e' = .returned (.tuple #[]) ∧ w' = w.setCell ⟨tb, 4, none⟩ (.int .i64 ((e + 1 : Nat) : Int))) := by
  have hw : IntKind.i64.wrap ((e : Int) + 1) = (e : Int) + 1 := IntWalk.i64_in _ (by omega)
  go_enter_d Tryz.func56, Tryz.ntmps56
  go_wp2
  go_end0
  first | exact ⟨rfl, rfl⟩ | simp
theorem ptr_nil (c : Nat) (W : World) : (binOp .eql 60 (.pointer (some ⟨c, 0, none⟩)) (.pointer none)).run Tryz.prog W = .ok (.bool false) W := by kernel_rfl
set_option maxRecDepth 100000 in
set_option maxHeartbeats 1600000 in
theorem move_any {S : TS} {w : World} (h : Tb w B tb mn mh mk who cb S) (hW : WF S) (he : S.epoch ≤ 1000000) (was now : Bool) (old new : Bs) (ho : old.length ≤ 100000) (hn : new.length ≤ 100000) :
    Calls Tryz.prog 43 #[.pointer (some ⟨tb, 0, none⟩), .map (some (kindB mn mh was)), .string ⟨old.toArray⟩, .string ⟨new.toArray⟩, .bool now] w fun e w' => ∃ r S', e = .returned (.int .i64 r) ∧ MoveR S was old now new r S' ∧ Tb w' B tb mn mh mk who cb S' ∧ Stp who who w w' := by
  have hmf : ∀ (fn : Fn) (first cap : Array Value) (w : World), (Instr.makeFunc fn first cap).run Tryz.prog w = .ok (.func fn first cap) w := fun _ _ _ _ => rfl
  have hb0 : Below w.heap.size w (w.alloc (.cells #[.pointer (some ⟨tb, 0, none⟩)] 25)) := (Below.refl _ w).alloc (Nat.le_refl _) _
  have hbn := heap_alloc_new w (.cells #[.pointer (some ⟨tb, 0, none⟩)] 25)
  have hT := h.low hb0
  obtain ⟨W, hWd⟩ : ∃ W, w.alloc (.cells #[.pointer (some ⟨tb, 0, none⟩)] 25) = W := ⟨_, rfl⟩
  obtain ⟨b, hbd⟩ : ∃ b, w.heap.size = b := ⟨_, rfl⟩
  rw [hWd] at hT hbn hb0
  rw [hbd] at hbn
  have hl1 := hT.lookName was (k := old) (by unfold maxLen; omega)
  have hl2 := hT.lookName now (k := new) (by unfold maxLen; omega)
  have KD : Hid (∀ W', (∃ S', Tb W' B tb mn mh mk who cb S') → Calls Tryz.prog 55 #[.pointer (some ⟨tb, 0, none⟩), .bool now] W' fun e w' => e = .returned (.map (some (kindB mn mh now))) ∧ W' = w') := fun W' ⟨S', hb⟩ => kind_any hb now
  have HT := Lib.hid hT
  have HB := Lib.hid hb0
  have b0 : W.cell? ⟨b, 0, none⟩ = some (.pointer (some ⟨tb, 0, none⟩)) := by simp [World.cell?, hbn]
  cases ho1 : S.nm was old with
  | none =>
    rw [ho1] at hl1
    simp only [ptrM, Option.map_none] at hl1
    clear hT hb0 hbn hl2
    go_enter_defers Tryz.func43, Tryz.ntmps43
    go_wp2_with fail
    exact ⟨_, results_tmp rfl _ _ _, 8, S, rfl, .inl ⟨ho1, rfl, rfl⟩, HT.out, Stp.of_below HB.out⟩
  | some n =>
    obtain ⟨c, hc, hcn, hch⟩ := (hW.names _ _ _).1 ho1
    rw [ho1] at hl1
    simp only [ptrM, Option.map_some] at hl1
    cases hn1 : S.nm now new with
    | some k =>
      rw [hn1] at hl2
      simp only [ptrM, Option.map_some] at hl2
      clear hT hb0 hbn hc hcn hch
      go_enter_defers Tryz.func43, Tryz.ntmps43
      go_wp2_with (go_at_call 55; refine (KD.out _ ⟨_, HT.out⟩).mono ?_; rintro e w2 ⟨rfl, rfl⟩)
      exact ⟨_, results_tmp rfl _ _ _, 6, S, rfl, .inr (.inl ⟨n, k, ho1, hn1, rfl, rfl⟩), HT.out, Stp.of_below HB.out⟩
    | none =>
      rw [hn1] at hl2
      simp only [ptrM, Option.map_none] at hl2
      obtain ⟨w2, hdel, hT2, hS2⟩ := hT.delName (ty := 0) was (k := old) (by unfold maxLen; omega)
      have hC2 := hT2.cmd n c hc
      obtain ⟨_, c1, c2, _, _, cf⟩ := hC2.cells
      have f1 := cf 1
      have f2 := cf 2
      obtain ⟨hT3, hS3⟩ := hT2.setCell (c' := { c with name := new }) hc 1 (.string ⟨new.toArray⟩) (.inl ⟨rfl, rfl, rfl⟩) rfl rfl
      have hc3 : (({ ({ S with nm := fun h' k' => if h' = was ∧ k' = old then none else S.nm h' k' } : TS) with cm := fun k => if k = n then some { c with name := new } else S.cm k } : TS)).cm n = some { c with name := new } := by simp
      obtain ⟨hT4, hS4⟩ := hT3.setCell (c' := { c with name := new, hid := now }) hc3 2 (.bool now) (.inr ⟨rfl, rfl, rfl⟩) rfl rfl
      obtain ⟨w5, hput, hT5, hS5⟩ := hT4.putName now (k := new) (by unfold maxLen; omega) n
      obtain ⟨_, _, _, _, e5, fz5⟩ := hT5.cells
      have g5 := fz5 4
      obtain ⟨hT6, hS6⟩ := hT5.setHdr 4 (.inr rfl) (S.epoch + 1)
      have hSt : Stp who who W w5 := ((hS2.trans hS3).trans hS4).trans hS5
      have hwb : who b = none := by rw [← hbd]; exact h.none_at (Nat.le_refl _)
      have hlb := (Array.getElem?_eq_some_iff.1 hbn).1
      have hbn3 := (((hS2.trans hS3).trans hS4).fr.block b hlb hwb).trans hbn
      have hbn5 := (hSt.fr.block b hlb hwb).trans hbn
      have b3 : ((w2.setCell ⟨cb n, 1, none⟩ (.string ⟨new.toArray⟩)).setCell ⟨cb n, 2, none⟩ (.bool now)).cell? ⟨b, 0, none⟩ = some (.pointer (some ⟨tb, 0, none⟩)) := by simp only [World.cell?, hbn3]; rfl
      have b5 : w5.cell? ⟨b, 0, none⟩ = some (.pointer (some ⟨tb, 0, none⟩)) := by simp [World.cell?, hbn5]
      have HF : Hid (Tb (w5.setCell ⟨tb, 4, none⟩ (.int .i64 ((S.epoch + 1 : Nat) : Int))) B tb mn mh mk who cb (moveT S n was old now new) ∧ Stp who who w (w5.setCell ⟨tb, 4, none⟩ (.int .i64 ((S.epoch + 1 : Nat) : Int)))) := by
        refine ⟨?_, (Stp.of_below HB.out).trans (hSt.trans hS6)⟩
        have h6 := hT6
        rw [if_neg (by decide)] at h6
        refine cast (congrArg (Tb _ B tb mn mh mk who cb) ?_) h6
        unfold moveT
        simp only [TS.mk.injEq, true_and, and_true]
        funext k
        by_cases ek : k = n
        · subst ek; simp [hc]
        · simp only [if_neg ek]
          cases S.cm k <;> rfl
      have HT4 : Hid (∃ S', Tb ((w2.setCell ⟨cb n, 1, none⟩ (.string ⟨new.toArray⟩)).setCell ⟨cb n, 2, none⟩ (.bool now)) B tb mn mh mk who cb S') := ⟨_, hT4⟩
      have HX := Lib.hid (And.intro b5 (And.intro e5 g5))
      clear hT hb0 hbn hc hcn hch hT2 hS2 hC2 hT3 hS3 hc3 hT4 hS4 hT5 hS5 e5 g5 fz5 hT6 hS6 hSt hwb hlb hbn3 hbn5 b5 cf
      go_enter_defers Tryz.func43, Tryz.ntmps43
      go_wp2_with (first | (go_at_call 55; refine (KD.out _ ⟨_, HT.out⟩).mono ?_; rintro e wk ⟨rfl, rfl⟩) | (go_at_call 55; refine (KD.out _ HT4.out).mono ?_; rintro e wk ⟨rfl, rfl⟩))
      refine leaves_cons (f := 56) (args := #[.pointer (some ⟨b, 0, none⟩)]) (by simp) (by simp [go_sem]) ?_
      refine (bump_d .returning w5 b S.epoch HX.out.1 HX.out.2.1 HX.out.2.2 he).mono ?_
      rintro e u' w'' ⟨rfl, rfl, rfl⟩
      exact ⟨_, results_tmp rfl _ _ _, 0, _, rfl, .inr (.inr ⟨n, ho1, hn1, rfl, rfl⟩), HF.out.1, HF.out.2⟩
end
end Go.Proofs.YtbbbenjakjejmaaGreat
namespace Go.Proofs.YtbbbenjakjejmaaGreat
set_option linter.unusedVariables false
set_option linter.unusedSimpArgs false
open Go.RowKit Go.MapKept Go.WideMaps
theorem below_drewM {B : Nat} {a w : World} (h : Below B a w) (n : Nat) : Below B a (w.drewN n) := h.trans ⟨rfl, rfl, rfl, Nat.le_refl _, fun _ _ => rfl⟩
section
variable {B tb mn mh mk : Nat} {who : Own} {cb : Nat → Nat}
set_option maxHeartbeats 400000 in
theorem Rename_any {S : TS} {w : World} (h : Tb w B tb mn mh mk who cb S) (hW : WF S) (he : S.epoch ≤ 1000000) (old new : Bs) (ho : old.length ≤ 100000) (hn : new.length ≤ 100000) :
    Calls Tryz.prog 12 #[.pointer (some ⟨tb, 0, none⟩), .string ⟨old.toArray⟩, .string ⟨new.toArray⟩] w fun e w' => ∃ r S', e = .returned (.int .i64 r) ∧ MoveR S false old false new r S' ∧ Tb w' B tb mn mh mk who cb S' ∧ Stp who who w w' := by
  have MV := Lib.hid (move_any h hW he false false old new ho hn)
  obtain ⟨c0, c1, _⟩ := h.cells
  rw [show kindB mn mh false = mn from rfl] at MV
  clear h hW
  go_enter Tryz.func12, Tryz.ntmps12
  go_wp2_with (go_at_call 43; refine MV.out.mono ?_; rintro e w2 ⟨r, S', rfl, hm, ht, hs⟩; have H := Lib.hid (And.intro hm (And.intro ht hs)); clear hm ht hs)
  go_ret
  exact ⟨r, S', rfl, H.out.1, H.out.2.1, H.out.2.2⟩
set_option maxHeartbeats 400000 in
theorem Hide_any {S : TS} {w : World} (h : Tb w B tb mn mh mk who cb S) (hW : WF S) (he : S.epoch ≤ 1000000) (old new : Bs) (ho : old.length ≤ 100000) (hn : new.length ≤ 100000) :
    Calls Tryz.prog 20 #[.pointer (some ⟨tb, 0, none⟩), .string ⟨old.toArray⟩, .string ⟨new.toArray⟩] w fun e w' => ∃ r S', e = .returned (.int .i64 r) ∧ MoveR S false old true new r S' ∧ Tb w' B tb mn mh mk who cb S' ∧ Stp who who w w' := by
  have MV := Lib.hid (move_any h hW he false true old new ho hn)
  obtain ⟨c0, c1, _⟩ := h.cells
  rw [show kindB mn mh false = mn from rfl] at MV
  clear h hW
  go_enter Tryz.func20, Tryz.ntmps20
  go_wp2_with (go_at_call 43; refine MV.out.mono ?_; rintro e w2 ⟨r, S', rfl, hm, ht, hs⟩; have H := Lib.hid (And.intro hm (And.intro ht hs)); clear hm ht hs)
  go_ret
  exact ⟨r, S', rfl, H.out.1, H.out.2.1, H.out.2.2⟩
set_option maxHeartbeats 400000 in
theorem Expose_any {S : TS} {w : World} (h : Tb w B tb mn mh mk who cb S) (hW : WF S) (he : S.epoch ≤ 1000000) (old new : Bs) (ho : old.length ≤ 100000) (hn : new.length ≤ 100000) :
    Calls Tryz.prog 22 #[.pointer (some ⟨tb, 0, none⟩), .string ⟨old.toArray⟩, .string ⟨new.toArray⟩] w fun e w' => ∃ r S', e = .returned (.int .i64 r) ∧ MoveR S true old false new r S' ∧ Tb w' B tb mn mh mk who cb S' ∧ Stp who who w w' := by
  have MV := Lib.hid (move_any h hW he true false old new ho hn)
  obtain ⟨c0, c1, _⟩ := h.cells
  rw [show kindB mn mh true = mh from rfl] at MV
  clear h hW
  go_enter Tryz.func22, Tryz.ntmps22
  go_wp2_with (go_at_call 43; refine MV.out.mono ?_; rintro e w2 ⟨r, S', rfl, hm, ht, hs⟩; have H := Lib.hid (And.intro hm (And.intro ht hs)); clear hm ht hs)
  go_ret
  exact ⟨r, S', rfl, H.out.1, H.out.2.1, H.out.2.2⟩
set_option maxHeartbeats 400000 in
theorem Find_any {S : TS} {w : World} (h : Tb w B tb mn mh mk who cb S) (hW : WF S) (k : Bs) (hk0 : k.length ≤ 100000) :
    Calls Tryz.prog 29 #[.pointer (some ⟨tb, 0, none⟩), .string ⟨k.toArray⟩] w fun e w' => e = .returned (.int .i64 (((S.nm false k).getD 0 : Nat) : Int)) ∧ Below w.heap.size w w' := by
  obtain ⟨c0, c1, _⟩ := h.cells
  have hk : k.length ≤ maxLen := by unfold maxLen; omega
  have hl := h.lookName false (k := k) hk
  have hl2 : ∀ n, (Instr.lookup 43 (.map (some (kindB mn mh false))) (.string ⟨k.toArray⟩) false).run Tryz.prog (w.drewN n) = .ok (ptrM cb (S.nm false k)) (w.drewN n) := fun n => (h.low (below_drewM (Below.refl _ _) n)).lookName false hk
  rw [show kindB mn mh false = mn from rfl] at hl
  simp only [show kindB mn mh false = mn from rfl] at hl2
  cases hn : S.nm false k with
  | none =>
    rw [hn] at hl
    simp only [hn, ptrM, Option.map_none] at hl hl2
    clear h hn
    go_enter Tryz.func29, Tryz.ntmps29
    go_wp2_with fail
    go_ret
    exact ⟨rfl, by first | exact Below.refl _ _ | exact (Below.refl _ _).drew | exact below_drewM (Below.refl _ _) _⟩
  | some n =>
    rw [hn] at hl
    simp only [hn, ptrM, Option.map_some] at hl hl2
    obtain ⟨c, hc, _⟩ := (hW.names _ _ _).1 hn
    obtain ⟨q0, _⟩ := (h.cmd n c hc).cells
    clear h hn
    go_enter Tryz.func29, Tryz.ntmps29
    go_wp2_with fail
    go_ret
    exact ⟨rfl, by first | exact Below.refl _ _ | exact (Below.refl _ _).drew | exact below_drewM (Below.refl _ _) _⟩
set_option maxHeartbeats 400000 in
theorem FindHidden_any {S : TS} {w : World} (h : Tb w B tb mn mh mk who cb S) (hW : WF S) (k : Bs) (hk0 : k.length ≤ 100000) :
    Calls Tryz.prog 31 #[.pointer (some ⟨tb, 0, none⟩), .string ⟨k.toArray⟩] w fun e w' => e = .returned (.int .i64 (((S.nm true k).getD 0 : Nat) : Int)) ∧ Below w.heap.size w w' := by
  obtain ⟨c0, c1, _⟩ := h.cells
  have hk : k.length ≤ maxLen := by unfold maxLen; omega
  have hl := h.lookName true (k := k) hk
  have hl2 : ∀ n, (Instr.lookup 43 (.map (some (kindB mn mh true))) (.string ⟨k.toArray⟩) false).run Tryz.prog (w.drewN n) = .ok (ptrM cb (S.nm true k)) (w.drewN n) := fun n => (h.low (below_drewM (Below.refl _ _) n)).lookName true hk
  rw [show kindB mn mh true = mh from rfl] at hl
  simp only [show kindB mn mh true = mh from rfl] at hl2
  cases hn : S.nm true k with
  | none =>
    rw [hn] at hl
    simp only [hn, ptrM, Option.map_none] at hl hl2
    clear h hn
    go_enter Tryz.func31, Tryz.ntmps31
    go_wp2_with fail
    go_ret
    exact ⟨rfl, by first | exact Below.refl _ _ | exact (Below.refl _ _).drew | exact below_drewM (Below.refl _ _) _⟩
  | some n =>
    rw [hn] at hl
    simp only [hn, ptrM, Option.map_some] at hl hl2
    obtain ⟨c, hc, _⟩ := (hW.names _ _ _).1 hn
    obtain ⟨q0, _⟩ := (h.cmd n c hc).cells
    clear h hn
    go_enter Tryz.func31, Tryz.ntmps31
    go_wp2_with fail
    go_ret
    exact ⟨rfl, by first | exact Below.refl _ _ | exact (Below.refl _ _).drew | exact below_drewM (Below.refl _ _) _⟩
end
end Go.Proofs.YtbbbenjakjejmaaGreat

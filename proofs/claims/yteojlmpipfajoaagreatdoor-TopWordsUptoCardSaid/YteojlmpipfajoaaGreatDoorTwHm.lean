/- The reader of scripts: a reading that comes to its end: reads, whole. The reader of scripts: Script and Complete of a text that is a list. -/
import Derived.Test.YteojlmpipfajoaaGreatDoorTwEm
import Derived.Defers
import Derived.Recover
namespace Go.Proofs.YteojlmpipfajoaaGreatDoor
set_option linter.unusedVariables false
set_option linter.unusedSimpArgs false
open Go.RowKit
/-- A stop that tells of nothing. -/
abbrev stpV : Value := .agg #[.int .i64 0, .int .i64 0, .bool false]
abbrev stpO : Obj := .cells #[.int .i64 0, .int .i64 0, .bool false] 66 (0, 0)
theorem infoSt : (Tryz.prog.info? 66).map (fun i => (i.zero, i.size)) = some (some stpV, 3) := by kernel_rfl
/-- The deferred closure finds nothing to recover. -/
theorem readsD_idle (p : Addr) (w : World) :
    CallsD Tryz.prog 45 #[.pointer (some p)] .returning w fun e u' w' => e = .returned (.tuple #[]) ∧ u' = .returning ∧ w' = w := by
  refine callsD_of_wpS Tryz.func45 rfl fun c₀ cs hu => ?_
  apply wpS_seq
  apply wpS_region
  simp [wpOpsS, go_sem, recoverD, hu, Tryz.ntmps45, Exit.thenS]
  refine wpS_of_wp ?_
  go_wp2_with fail
  cases c₀
  simp_all [bodyPostS, results, Tryz.results45]
theorem st_cells {w : World} {b : Nat} (h : w.heap[b]? = some stpO) : w.cell? ⟨b, 0, none⟩ = some (.int .i64 0) ∧ w.cell? ⟨b, 1, none⟩ = some (.int .i64 0) ∧ w.cell? ⟨b, 2, none⟩ = some (.bool false) ∧ w.frozen? ⟨b, 0, none⟩ = false ∧ w.frozen? ⟨b, 1, none⟩ = false ∧ w.frozen? ⟨b, 2, none⟩ = false := by
  refine ⟨?_, ?_, ?_, by simp [World.frozen?, h], by simp [World.frozen?, h], by simp [World.frozen?, h]⟩ <;> (simp only [World.cell?, h]; rfl)
theorem st_put {w : World} {b : Nat} (h : w.heap[b]? = some stpO) : (((w.setCell ⟨b, 0, none⟩ (.int .i64 0)).setCell ⟨b, 1, none⟩ (.int .i64 0)).setCell ⟨b, 2, none⟩ (.bool false)).heap[b]? = some stpO := by
  exact heap_setCell_same _ b 2 _ _ (.bool false) (heap_setCell_same _ b 1 _ _ (.int .i64 0) (heap_setCell_same w b 0 _ _ (.int .i64 0) h))
theorem whole_any (s : Bs) (w : World) (hl : s.length ≤ 100000) : Calls Tryz.prog 23 #[.string ⟨s.toArray⟩] w fun e w' => e = .returned (.pointer (some ⟨w.heap.size, 0, none⟩)) ∧ w' = w.alloc (RdO s 0) := by
  go_enter Tryz.func23, Tryz.ntmps23
  go_wp2_with fail
  go_ret
  exact ⟨rfl, rfl⟩
set_option maxRecDepth 100000 in
theorem reads_any {w : World} {f : Nat} {cap : Array Value} {R : World → Prop} (hcf : ∀ w, (callFunc f cap).run Tryz.prog w = .ok (.enter f cap) w)
    (hb : Calls Tryz.prog f cap (w.alloc stpO) (fun e w' => e = .returned (.tuple #[]) ∧ R w'))
    (hR : ∀ w', R w' → w'.heap[w.heap.size]? = some stpO) :
    Calls Tryz.prog 24 #[.func (.func f) #[] cap] w fun e w' => e = .returned stpV ∧ ∃ w1, R w1 ∧ Kp [w.heap.size] w1 w' := by
  have hmf : ∀ (fn : Fn) (first cap : Array Value) (w : World), (Instr.makeFunc fn first cap).run Tryz.prog w = .ok (.func fn first cap) w := fun _ _ _ _ => rfl
  go_enter_defers Tryz.func24, Tryz.ntmps24
  go_wp2_with (with_reducible refine hb.mono ?_; rintro e w1 ⟨rfl, hr⟩; obtain ⟨c0, c1, c2, f0, f1, f2⟩ := st_cells (hR _ hr))
  refine leaves_cons (f := 45) (args := #[.pointer (some ⟨w.heap.size, 0, none⟩)]) (by simp) (by simp [go_sem]) ?_
  refine (readsD_idle ⟨w.heap.size, 0, none⟩ _).mono ?_
  rintro e u' w'' ⟨rfl, rfl, rfl⟩
  have hq := st_put (hR _ hr)
  have hk : Kp [w.heap.size] w1 (((w1.setCell ⟨w.heap.size, 0, none⟩ (.int .i64 0)).setCell ⟨w.heap.size, 1, none⟩ (.int .i64 0)).setCell ⟨w.heap.size, 2, none⟩ (.bool false)) := (((Kp.refl _ w1).setCell _ 0 _ (.inl (by simp))).setCell _ 1 _ (.inl (by simp))).setCell _ 2 _ (.inl (by simp))
  generalize (((w1.setCell ⟨w.heap.size, 0, none⟩ (.int .i64 0)).setCell ⟨w.heap.size, 1, none⟩ (.int .i64 0)).setCell ⟨w.heap.size, 2, none⟩ (.bool false)) = w2 at hq hk ⊢
  obtain ⟨d0, d1, d2, -, -, -⟩ := st_cells hq
  simp [Leaves, settle, results, Tryz.results24, go_sem, d0, d1, d2]
  exact ⟨w1, hr, hk⟩
end Go.Proofs.YteojlmpipfajoaaGreatDoor
namespace Go.Proofs.YteojlmpipfajoaaGreatDoor
set_option linter.unusedVariables false
set_option linter.unusedSimpArgs false
open Go.RowKit
theorem cmds_shape {w : World} {lo : Nat} {v : Value} {l : List Bs} (h : CmdsAt w lo v l) : ∃ g c, v = .slice (some ⟨g, 0, none⟩) 1 c := by
  obtain ⟨g, c, _, _, _, _, _, _, e, _⟩ := h.ex
  exact ⟨g, c, e⟩
theorem CmdsAt.lo {w : World} {lo lo' : Nat} {v : Value} {l : List Bs} (h : CmdsAt w lo v l) (hl : lo' ≤ lo) : CmdsAt w lo' v l := by
  obtain ⟨g, c, V, ts, B, i0, b1, b2, r⟩ := h.ex
  exact ⟨g, c, V, ts, B, i0, Nat.le_trans hl b1, Nat.le_trans hl b2, r⟩
section
variable {rb b2 b5 : Nat} {s : Bs} {l : List Bs}
theorem script1_any {w : World} (h : Rd w rb s 0) (hl : l ≠ []) (hd : s = joinL l) (hln : l.length ≤ 100000) (hxl : ∀ x ∈ l, x.length ≤ 100000)
    (h5 : w.cell? ⟨b5, 0, none⟩ = some (.pointer (some ⟨rb, 0, none⟩))) (h2 : w.heap[b2]? = some (.cells #[.slice none 0 0] 28 (0, 0))) (hn : b2 ≠ rb) :
    Calls Tryz.prog 25 #[.pointer (some ⟨b5, 0, none⟩), .pointer (some ⟨b2, 0, none⟩)] w fun e w' => e = .returned (.tuple #[]) ∧ ∃ v w1, CmdsAt w1 w.heap.size v l ∧ Kp [rb] w w1 ∧ w' = w1.setCell ⟨b2, 0, none⟩ v := by
  have CS := Lib.hid (commands_any h hl hd hln hxl)
  have HB : Hid (∀ W, Kp [rb] w W → W.heap[b2]? = some (.cells #[.slice none 0 0] 28 (0, 0))) := fun W hk => (hk.block _ (Array.getElem?_eq_some_iff.1 h2).1 (by simpa using hn)).trans h2
  clear h hl hd hln hxl h2 hn
  go_enter Tryz.func25, Tryz.ntmps25
  go_wp2_with (go_at_call 26; refine CS.out.mono ?_; rintro e w1 ⟨v, rfl, hv, hk⟩; obtain ⟨gv, cv, rfl⟩ := cmds_shape hv; have q := HB.out _ hk; have fz : w1.frozen? ⟨b2, 0, none⟩ = false := (by simp [World.frozen?, q]); have cc : w1.cell? ⟨b2, 0, none⟩ = some (.slice none 0 0) := (by simp only [World.cell?, q]; rfl); clear q)
  go_end0
  exact ⟨rfl, _, w1, hv, hk, rfl⟩
theorem complete1_any {w : World} (h : Rd w rb s 0) (hl : l ≠ []) (hd : s = joinL l) (hln : l.length ≤ 100000) (hxl : ∀ x ∈ l, x.length ≤ 100000)
    (h5 : w.cell? ⟨b5, 0, none⟩ = some (.pointer (some ⟨rb, 0, none⟩))) :
    Calls Tryz.prog 28 #[.pointer (some ⟨b5, 0, none⟩)] w fun e w' => e = .returned (.tuple #[]) ∧ Kp [rb] w w' := by
  have CS := Lib.hid (commands_any h hl hd hln hxl)
  clear h hl hd hln hxl
  go_enter Tryz.func28, Tryz.ntmps28
  go_wp2_with (go_at_call 26; refine CS.out.mono ?_; rintro e w1 ⟨v, rfl, hv, hk⟩)
  go_end0
  exact ⟨rfl, hk⟩
end
section
variable {s : Bs} {l : List Bs}
set_option maxRecDepth 100000 in
theorem complete_any (w : World) (hl : l ≠ []) (hd : s = joinL l) (hsl : s.length ≤ 100000) (hln : l.length ≤ 100000) (hxl : ∀ x ∈ l, x.length ≤ 100000) :
    Calls Tryz.prog 9 #[.string ⟨s.toArray⟩] w fun e w' => e = .returned (.bool true) ∧ Kp [] w w' := by
  have hmf : ∀ (fn : Fn) (first cap : Array Value) (w : World), (Instr.makeFunc fn first cap).run Tryz.prog w = .ok (.func fn first cap) w := fun _ _ _ _ => rfl
  have WH := Lib.hid (whole_any s w hsl)
  have hz1 : (w.alloc (RdO s 0)).heap.size = w.heap.size + 1 := by simp
  have hz2 : ((w.alloc (RdO s 0)).alloc (.cells #[.pointer (some ⟨w.heap.size, 0, none⟩)] 63)).heap.size = w.heap.size + 2 := by simp
  have hA : Below w.heap.size w ((w.alloc (RdO s 0)).alloc (.cells #[.pointer (some ⟨w.heap.size, 0, none⟩)] 63)) := ((Below.refl _ _).alloc (Nat.le_refl _) _).alloc (by simp) _
  have hR1 : Rd (w.alloc (RdO s 0)) w.heap.size s 0 := ⟨heap_alloc_new w _, by omega, hsl⟩
  have h50 := heap_alloc_new (w.alloc (RdO s 0)) (.cells #[.pointer (some ⟨w.heap.size, 0, none⟩)] 63)
  rw [hz1] at h50
  have hR2 := hR1.below ((Below.refl _ _).alloc (Nat.le_refl _) (.cells #[.pointer (some ⟨w.heap.size, 0, none⟩)] 63))
  have RS : Hid (Calls Tryz.prog 24 #[.func (.func 28) #[] #[.pointer (some ⟨w.heap.size + 1, 0, none⟩)]] ((w.alloc (RdO s 0)).alloc (.cells #[.pointer (some ⟨w.heap.size, 0, none⟩)] 63)) fun e w' => e = .returned stpV ∧ Kp [] w w') := by
    generalize hV : (w.alloc (RdO s 0)).alloc (.cells #[.pointer (some ⟨w.heap.size, 0, none⟩)] 63) = V at hz2 hA h50 hR2 ⊢
    have hA3 := (Below.refl V.heap.size V).alloc (Nat.le_refl _) stpO
    have hR3 := hR2.below hA3
    have h53 : (V.alloc stpO).heap[w.heap.size + 1]? = some (.cells #[.pointer (some ⟨w.heap.size, 0, none⟩)] 63) := (hA3.block _ (by omega)).trans h50
    refine (reads_any (R := fun w' => Kp [w.heap.size] (V.alloc stpO) w') (fun _ => rfl) (complete1_any (b5 := w.heap.size + 1) hR3 hl hd hln hxl (by simp only [World.cell?, h53]; rfl)) (fun w' hk => (hk.block _ (by simp) (by simp; omega)).trans (heap_alloc_new V _))).mono ?_
    rintro e w' ⟨rfl, w1, hk1, hk2⟩
    exact ⟨rfl, (((kp_of_below hA).trans (kp_of_below hA3) (by simp)).trans hk1 (by simp)).trans hk2 (by simp; omega)⟩
  clear hz1 hz2 hA hR1 h50 hR2 hl hd hsl hln hxl
  have hfl : ∀ W, (Instr.field 66 stpV 2).run Tryz.prog W = .ok (.bool false) W := fun _ => by kernel_rfl
  go_enter Tryz.func9, Tryz.ntmps9
  go_wp2_with (first | (go_at_call 23; refine WH.out.mono ?_; rintro e w1 ⟨rfl, rfl⟩) | (go_at_call 24; refine RS.out.mono ?_; rintro e w2 ⟨rfl, hk⟩))
  go_ret
  exact ⟨rfl, hk⟩
set_option maxRecDepth 100000 in
theorem script_any (w : World) (hl : l ≠ []) (hd : s = joinL l) (hsl : s.length ≤ 100000) (hln : l.length ≤ 100000) (hxl : ∀ x ∈ l, x.length ≤ 100000) :
    Calls Tryz.prog 7 #[.string ⟨s.toArray⟩] w fun e w' => ∃ v, e = .returned (.tuple #[v, .int .i64 0, .int .i64 0]) ∧ CmdsAt w' w.heap.size v l ∧ Kp [] w w' := by
  have hmf : ∀ (fn : Fn) (first cap : Array Value) (w : World), (Instr.makeFunc fn first cap).run Tryz.prog w = .ok (.func fn first cap) w := fun _ _ _ _ => rfl
  have hz0 : (w.alloc (.cells #[.slice none 0 0] 28)).heap.size = w.heap.size + 1 := by simp
  have WH := Lib.hid (whole_any s (w.alloc (.cells #[.slice none 0 0] 28)) hsl)
  rw [hz0] at WH
  have hA0 : Below w.heap.size w (w.alloc (.cells #[.slice none 0 0] 28)) := (Below.refl _ _).alloc (Nat.le_refl _) _
  have h00 := heap_alloc_new w (.cells #[.slice none 0 0] 28)
  have RS : Hid (Calls Tryz.prog 24 #[.func (.func 25) #[] #[.pointer (some ⟨w.heap.size + 2, 0, none⟩), .pointer (some ⟨w.heap.size, 0, none⟩)]] (((w.alloc (.cells #[.slice none 0 0] 28)).alloc (RdO s 0)).alloc (.cells #[.pointer (some ⟨w.heap.size + 1, 0, none⟩)] 63)) fun e w' => e = .returned stpV ∧ ∃ v, CmdsAt w' (w.heap.size + 1) v l ∧ w'.heap[w.heap.size]? = some (.cells #[v] 28 (0, 0)) ∧ Kp [] w w') := by
    generalize hV0 : w.alloc (.cells #[.slice none 0 0] 28) = V0 at hz0 hA0 h00 ⊢
    have hR1 : Rd (V0.alloc (RdO s 0)) (w.heap.size + 1) s 0 := ⟨by rw [← hz0]; exact heap_alloc_new V0 _, by omega, hsl⟩
    have hz1 : (V0.alloc (RdO s 0)).heap.size = w.heap.size + 2 := by simp [hz0]
    have hA1 := hA0.alloc (by omega) (RdO s 0)
    have h01 : (V0.alloc (RdO s 0)).heap[w.heap.size]? = some (.cells #[.slice none 0 0] 28 (0, 0)) := (Below.heap_alloc V0 _ _ (by omega)).trans h00
    generalize V0.alloc (RdO s 0) = V1 at hR1 hz1 hA1 h01 ⊢
    have h51 := heap_alloc_new V1 (.cells #[.pointer (some ⟨w.heap.size + 1, 0, none⟩)] 63)
    rw [hz1] at h51
    have hA2 := hA1.alloc (by omega) (.cells #[.pointer (some ⟨w.heap.size + 1, 0, none⟩)] 63)
    have hz2 : (V1.alloc (.cells #[.pointer (some ⟨w.heap.size + 1, 0, none⟩)] 63)).heap.size = w.heap.size + 3 := by simp [hz1]
    have hB2 := (Below.refl V1.heap.size V1).alloc (Nat.le_refl _) (.cells #[.pointer (some ⟨w.heap.size + 1, 0, none⟩)] 63)
    have hR2 := hR1.below hB2
    have h02 := (hB2.block _ (by omega)).trans h01
    generalize V1.alloc (.cells #[.pointer (some ⟨w.heap.size + 1, 0, none⟩)] 63) = V at h51 hA2 hz2 hR2 h02 ⊢
    have hA3 := (Below.refl V.heap.size V).alloc (Nat.le_refl _) stpO
    have hz3 : (V.alloc stpO).heap.size = w.heap.size + 4 := by simp [hz2]
    have hR3 := hR2.below hA3
    have h53 : (V.alloc stpO).heap[w.heap.size + 2]? = some (.cells #[.pointer (some ⟨w.heap.size + 1, 0, none⟩)] 63 (0, 0)) := (hA3.block _ (by omega)).trans h51
    have h03 := (hA3.block _ (by omega)).trans h02
    have hsz := heap_alloc_new V stpO
    refine (reads_any (R := fun w' => ∃ v w1, CmdsAt w1 (w.heap.size + 4) v l ∧ Kp [w.heap.size + 1] (V.alloc stpO) w1 ∧ w' = w1.setCell ⟨w.heap.size, 0, none⟩ v) (fun _ => rfl) ((script1_any (b5 := w.heap.size + 2) (b2 := w.heap.size) hR3 hl hd hln hxl (by simp only [World.cell?, h53]; rfl) h03 (by omega)).mono (fun e w' h => by rw [hz3] at h; exact h)) ?_).mono ?_
    · rintro w' ⟨v, w1, -, hk, rfl⟩
      rw [hz2] at hsz ⊢
      exact (((Kp.refl _ w1).setCell w.heap.size 0 v (.inl (by simp)) : Kp [w.heap.size] w1 _).block _ (by have := hk.size; omega) (by simp)).trans ((hk.block _ (by omega) (by simp)).trans hsz)
    · rintro e w' ⟨rfl, w2, ⟨v, w1, hv, hk, rfl⟩, hk2⟩
      rw [hz2] at hk2
      have hS : Kp [w.heap.size] w1 (w1.setCell ⟨w.heap.size, 0, none⟩ v) := (Kp.refl _ w1).setCell w.heap.size 0 v (.inl (by simp))
      have h0w := heap_setCell_same w1 w.heap.size 0 _ _ v ((hk.block _ (by omega) (by simp)).trans h03)
      refine ⟨rfl, v, ?_, (hk2.block _ (by have := hS.size; have := hk.size; omega) (by simp)).trans h0w, ((((kp_of_below hA2).trans (kp_of_below hA3) (by simp)).trans hk (by simp)).trans hS (by simp)).trans hk2 (by simp)⟩
      have c1 := (hv.kp hS (by simp)).kp hk2 (by simp)
      exact c1.lo (by omega)
  clear hz0 hA0 h00 hl hd hsl hln hxl
  go_enter Tryz.func7, Tryz.ntmps7
  go_wp2_with (first | (go_at_call 23; refine WH.out.mono ?_; rintro e w1 ⟨rfl, rfl⟩) | (go_at_call 24; refine RS.out.mono ?_; rintro e w2 ⟨rfl, v, hv, hb, hk⟩; obtain ⟨gv, cv, rfl⟩ := cmds_shape hv; have hb2 := (Below.heap_alloc w2 stpO _ (Array.getElem?_eq_some_iff.1 hb).1).trans hb; have fz : (w2.alloc (.cells #[.int .i64 0, .int .i64 0, .bool false] 66 (0, 0))).frozen? ⟨w.heap.size, 0, none⟩ = false := (by simp [World.frozen?, hb2]); have cc : (w2.alloc (.cells #[.int .i64 0, .int .i64 0, .bool false] 66 (0, 0))).cell? ⟨w.heap.size, 0, none⟩ = some (.slice (some ⟨gv, 0, none⟩) 1 cv) := (by simp only [World.cell?, hb2]; rfl); have H2 := Lib.hid (And.intro hv (And.intro hb2 hk)); clear hb hb2 hv hk))
  obtain ⟨hv, hb2, hk⟩ := H2.out
  have hv2 := hv.below ((Below.refl _ _).alloc (Nat.le_refl _) (.cells #[.int .i64 0, .int .i64 0, .bool false] 66))
  have hk2 : Kp [] w (w2.alloc (.cells #[.int .i64 0, .int .i64 0, .bool false] 66)) := hk.trans (kp_of_below ((Below.refl _ _).alloc (Nat.le_refl _) _)) (by simp)
  clear H2 hv hk cc fz
  generalize w2.alloc (.cells #[.int .i64 0, .int .i64 0, .bool false] 66) = W at hb2 hv2 hk2 ⊢
  have hq := heap_setCell_same W w.heap.size 0 _ _ (.slice (some ⟨gv, 0, none⟩) 1 cv) hb2
  have hS : Kp [w.heap.size] W (W.setCell ⟨w.heap.size, 0, none⟩ (.slice (some ⟨gv, 0, none⟩) 1 cv)) := (Kp.refl _ W).setCell w.heap.size 0 _ (.inl (by simp))
  have d0 : (W.setCell ⟨w.heap.size, 0, none⟩ (.slice (some ⟨gv, 0, none⟩) 1 cv)).cell? ⟨w.heap.size, 0, none⟩ = some (.slice (some ⟨gv, 0, none⟩) 1 cv) := by simp only [World.cell?, hq]; rfl
  exact bodyPost_ret (v := .tuple #[.slice (some ⟨gv, 0, none⟩) 1 cv, .int .i64 0, .int .i64 0]) (by simp [results, Tryz.results7, go_sem, d0]) rfl ⟨_, rfl, (hv2.kp hS (by simp)).lo (by omega), hk2.trans hS (by simp)⟩
end
end Go.Proofs.YteojlmpipfajoaaGreatDoor

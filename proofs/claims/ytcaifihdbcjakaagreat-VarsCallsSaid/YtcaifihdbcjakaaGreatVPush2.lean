/- 'begin' and 'Push' of a space of variables, with what a new scope has: nothing. -/
import Derived.Test.YtcaifihdbcjakaaGreatVNew
import Derived.Test.YtcaifihdbcjakaaGreatVUnset
namespace Go.Proofs.YtcaifihdbcjakaaGreat
set_option linter.unusedVariables false
set_option linter.unusedSimpArgs false
open Go.RowKit
variable {N : Nat}

set_option maxRecDepth 100000 in
set_option maxHeartbeats 1600000 in
theorem begin_new {B : Nat} {S : St} {w : World} (hB : B ≤ w.heap.size) (h : Rep B w S) {x sm : Nat} {g : Int → Option Nat} (hp : Sp N S x sm g) :
    Calls Tryz.prog 34 #[.pointer (some ⟨x, 0, none⟩)] w fun en w' => ∃ i S' m, en = .returned (.int .i64 i) ∧ (Lit.int .i64 i).wf = true ∧ Goes B S w S' w' ∧ Sp N S' x sm (fun j => if j = i then some m else g j) ∧ S m = none ∧ (∀ m' w', nmOf S' m' w' = nmOf S m' w') ∧ S' x = S x := by
  obtain ⟨cs, rm, r, hx, hrm, hcs⟩ := hp.space
  obtain ⟨x0, _, _, ⟨n, x3⟩, xf⟩ := h.space hx
  have hf3 := xf 3
  have hmk := fun W => run_makeMap (P := Tryz.prog) 46 W
  obtain ⟨n1, hn1⟩ : ∃ n1, IntKind.i64.wrap (n + 1) = n1 := ⟨_, rfl⟩
  have hwf := wf_wrap (n + 1)
  rw [hn1] at hwf
  have HWF := Lib.hid hwf
  have hsm := hp.smap
  have g1 : Goes B S w S (w.setCell ⟨x, 3, none⟩ (.int .i64 n1)) := by
    obtain ⟨_, n', hbx⟩ := h x _ hx
    have := h.goes.write (w'' := w.setCell ⟨x, 3, none⟩ (.int .i64 n1)) (k := .space sm cs rm) hx (only_setCell _ _ _ _) ⟨n1, heap_setCell_same _ _ _ _ _ _ hbx⟩
    rwa [St.set_same hx] at this
  obtain ⟨y0, _, _, _, _⟩ := g1.rep.space hx
  have y3 : (w.setCell ⟨x, 3, none⟩ (.int .i64 n1)).cell? ⟨x, 3, none⟩ = some (.int .i64 n1) := World.cell?_setCell_same _ _ _ x3
  have hfree : S (w.setCell ⟨x, 3, none⟩ (.int .i64 n1)).heap.size = none := g1.rep.free (Nat.le_refl _)
  have g3 := (g1.new hB (.map #[] 0) (.nmap fun _ => none) (mapAt_new _ _ _ _)).drew
  have hm3 : (S.set (w.setCell ⟨x, 3, none⟩ (.int .i64 n1)).heap.size (.nmap fun _ => none)) sm = some (.smap g) := by grind
  have hxs3 : (S.set (w.setCell ⟨x, 3, none⟩ (.int .i64 n1)).heap.size (.nmap fun _ => none)) x = some (.space sm cs rm) := by grind
  have hxsm : x ≠ sm := by rintro rfl; rw [hx] at hsm; cases hsm
  obtain ⟨w2, hrun, ho, hma⟩ := MapAt.store (g3.rep sm _ hm3).2 Ikeyed (t := 47) (et := 46) Tryz.underlying47 iv_inj (ikey hwf) (.map (some (w.setCell ⟨x, 3, none⟩ (.int .i64 n1)).heap.size))
  have g4 := g3.write (k := .smap fun j => if j = n1 then some (w.setCell ⟨x, 3, none⟩ (.int .i64 n1)).heap.size else g j) hm3 ho (by
    show MapAt _ _ _ _ _ _
    rw [show (fun i => (if i = n1 then some (w.setCell ⟨x, 3, none⟩ (.int .i64 n1)).heap.size else g i).map fun m => mv (some m)) = (fun k' => if k' = n1 then some (.map (some (w.setCell ⟨x, 3, none⟩ (.int .i64 n1)).heap.size)) else (g k').map fun m => mv (some m)) from by funext k; split <;> rfl]
    exact hma)
  have hg4x : ((S.set (w.setCell ⟨x, 3, none⟩ (.int .i64 n1)).heap.size (.nmap fun _ => none)).set sm (.smap fun j => if j = n1 then some (w.setCell ⟨x, 3, none⟩ (.int .i64 n1)).heap.size else g j)) x = some (.space sm cs rm) := by grind
  obtain ⟨z0, _, _, _, _⟩ := g4.rep.space hg4x
  have z3 : w2.cell? ⟨x, 3, none⟩ = some (.int .i64 n1) := by
    have e1 : w2.heap[x]? = (w.setCell ⟨x, 3, none⟩ (.int .i64 n1)).heap[x]? := by
      rw [ho.block x hxsm]
      exact (MapKept.heap_alloc _ _).2 x (g1.rep x _ hx).2.lt
    have y3' := y3
    simp only [World.cell?] at y3' ⊢
    rw [e1]; exact y3'
  have hwf1 := hp.wf.newNames hfree
  have hwf2 := hwf1.bind (m0 := (w.setCell ⟨x, 3, none⟩ (.int .i64 n1)).heap.size) (f0 := fun _ => none) n1 hm3 (by simp [St.set]) (fun i hi => by obtain ⟨f, hf⟩ := hp.wf.scope hsm hi; rw [hfree] at hf; cases hf)
  have hSP : Sp N ((S.set (w.setCell ⟨x, 3, none⟩ (.int .i64 n1)).heap.size (.nmap fun _ => none)).set sm (.smap fun j => if j = n1 then some (w.setCell ⟨x, 3, none⟩ (.int .i64 n1)).heap.size else g j)) x sm (fun j => if j = n1 then some (w.setCell ⟨x, 3, none⟩ (.int .i64 n1)).heap.size else g j) := by
    refine ⟨hwf2, by grind, cs, rm, r, by grind, by grind, fun b n c e1 => ?_⟩
    obtain ⟨h4, l, h5, h6⟩ := hcs b n c e1
    exact ⟨h4, l, by grind, h6⟩
  have HSP := Lib.hid hSP
  have HFR := Lib.hid hfree
  have HNM : Hid (∀ m' w', nmOf ((S.set (w.setCell ⟨x, 3, none⟩ (.int .i64 n1)).heap.size (.nmap fun _ => none)).set sm (.smap fun j => if j = n1 then some (w.setCell ⟨x, 3, none⟩ (.int .i64 n1)).heap.size else g j)) m' w' = nmOf S m' w') := by
    intro m' w'; unfold nmOf; grind
  have HXX : Hid (((S.set (w.setCell ⟨x, 3, none⟩ (.int .i64 n1)).heap.size (.nmap fun _ => none)).set sm (.smap fun j => if j = n1 then some (w.setCell ⟨x, 3, none⟩ (.int .i64 n1)).heap.size else g j)) x = S x) := by show _ = _; grind
  have HG4 := Lib.hid g4
  rw [show (Value.int IntKind.i64 n1) = iv n1 from rfl] at hrun
  have hrun' : (Instr.mapUpdate 47 (.map (some sm)) (.int .i64 n1) (.map (some (w.setCell ⟨x, 3, none⟩ (.int .i64 n1)).heap.size))).run Tryz.prog ((w.setCell ⟨x, 3, none⟩ (.int .i64 n1)).alloc (.map #[] 0)).drew = .ok () w2 := hrun
  clear hwf hwf1 hwf2 hSP g1 g3 g4 hg4x hxs3 hm3 hma ho hrun hcs
  go_enter Tryz.func34, Tryz.ntmps34
  go_wp2_with fail
  generalize hw1 : w.setCell ⟨x, 3, none⟩ (.int .i64 n1) = w1 at *
  go_region_held3 (fun w' => w'.cell? ⟨x, 0, none⟩ = some (.map (some sm)) ∧ w'.cell? ⟨x, 3, none⟩ = some (.int .i64 n1)) (first | go_keep) (fail)
  go_wp2_with fail
  go_ret
  exact ⟨n1, _, w1.heap.size, rfl, HWF.out, HG4.out, HSP.out, HFR.out, HNM.out, HXX.out⟩

theorem push_end3 {B : Nat} {S S1 : St} {w w2 : World} {x sm rm1 gb n c : Nat} {g1 : Int → Option Nat} {cs1 : Option (Nat × Nat × Nat)} {l : List Int} {i : Int} {row : Option Nat} (hp1 : Sp N S1 x sm g1) (hx1 : S1 x = some (.space sm cs1 rm1)) (hG2 : Goes B S w (rowS S1 row gb (l ++ [i]) c) w2)
    (hrow : ∀ b, row = some b → ∃ l c, S1 b = some (.row l c)) (hgb : (∃ l c, S1 gb = some (.row l c)) ∨ S1 gb = none) (hln : l.length = n) (hnN : n ≤ N) (hlw : ∀ i ∈ l, -9223372036854775808 ≤ i ∧ i ≤ 9223372036854775807) (hwfi : (Lit.int .i64 i).wf = true) (hc1 : n + 1 ≤ c) (hc2 : c ≤ 9223372036854775807) (hnm : ∀ m' w', nmOf S1 m' w' = nmOf S m' w') :
    ∃ S', Goes B S w S' (w2.setCell ⟨x, 1, none⟩ (callsV (some (gb, n + 1, c)))) ∧ Sp (N + 1) S' x sm g1 ∧ (∀ m' w', nmOf S' m' w' = nmOf S m' w') ∧ S' x = some (.space sm (some (gb, n + 1, c)) rm1) ∧ S' gb = some (.row (l ++ [i]) c) := by
  have _skip : True := trivial
  have oth := fun {m : Nat} {k : Blk} (hm : S1 m = some k) (hk : ∀ l c, k ≠ .row l c) => rowS_other hrow hgb hm hk (l ++ [i]) c
  have hwf2 : WF (rowS S1 row gb (l ++ [i]) c) := by
    refine hp1.wf.rowsOnly fun m k hk => ⟨fun hm => ?_, fun hm => oth hm hk⟩
    simp only [rowS] at hm
    split at hm
    · cases hm; exact absurd rfl (hk _ _)
    · split at hm
      · cases hm
      · exact hm
  have hxx := oth hx1 (by intros; simp)
  obtain ⟨cs0, rm0, r0, q1, q2, q3⟩ := hp1.space
  rw [hx1] at q1; cases q1
  have hsm := oth hp1.smap (by intros; simp)
  have hrm := oth q2 (by intros; simp)
  obtain ⟨_, n', hbx⟩ := hG2.rep x _ hxx
  have hgx : gb ≠ x := by
    rintro rfl
    rcases hgb with ⟨l', c', hgb⟩ | hgb
    · rw [hx1] at hgb; cases hgb
    · rw [hx1] at hgb; cases hgb
  have hnm2 : ∀ m' w', nmOf ((rowS S1 row gb (l ++ [i]) c).set x (.space sm (some (gb, n + 1, c)) rm1)) m' w' = nmOf S m' w' := by
    intro m' w'
    rw [← hnm m' w']
    by_cases hmx : m' = x
    · subst hmx; simp [nmOf, St.set, hx1]
    · have e1 : ((rowS S1 row gb (l ++ [i]) c).set x (.space sm (some (gb, n + 1, c)) rm1)) m' = rowS S1 row gb (l ++ [i]) c m' := by simp [St.set, hmx]
      unfold nmOf
      rw [e1]
      unfold rowS
      by_cases hg1 : m' = gb
      · subst hg1
        rcases hgb with ⟨l', c', hgb⟩ | hgb <;> simp [hgb]
      · rw [if_neg hg1]
        split
        · rename_i f2 hf2
          split at hf2
          · cases hf2
          · rw [hf2]
        · rename_i hf2
          split at hf2
          · rename_i hrw
            obtain ⟨l', c', hb'⟩ := hrow m' hrw.symm
            simp [hb']
          · rename_i hrw
            cases hS : S1 m' with
            | none => rfl
            | some kk =>
              cases kk with
              | nmap f3 => exact absurd hS (hf2 f3)
              | _ => rfl
  refine ⟨(rowS S1 row gb (l ++ [i]) c).set x (.space sm (some (gb, n + 1, c)) rm1), hG2.write hxx (only_setCell _ _ _ _) ⟨n', heap_setCell_same _ _ _ _ _ _ hbx⟩, ⟨hwf2.space hxx, by grind, some (gb, n + 1, c), rm1, r0, by simp [St.set], by grind, ?_⟩, hnm2, by simp [St.set], by simp only [St.set]; rw [if_neg hgx]; simp [rowS]⟩
  intro b n1 c1 e
  cases e
  refine ⟨by omega, l ++ [i], by simp only [St.set]; rw [if_neg hgx]; simp [rowS], by simp [hln], by simp [hln]; omega, hc2, fun j hj => ?_⟩
  rw [List.mem_append, List.mem_singleton] at hj
  rcases hj with hj | rfl
  · exact hlw j hj
  · have hh := hwfi
    simp only [Lit.wf, Bool.and_eq_true, decide_eq_true_eq] at hh
    exact hh

def callsN : Option (Nat × Nat × Nat) → Nat | none => 0 | some (_, n, _) => n
def cntS (S : St) (x : Nat) : Nat := match S x with | some (.space _ cs _) => callsN cs | _ => 0

theorem own_cnt {w : World} {B : Nat} {t : TypeId} {cs : Option (Nat × Nat × Nat)} {n : Nat} {xs : List Value} (h : w.ownsRow B t 1 (callsV cs) n xs) : n = callsN cs := by
  cases cs with
  | none =>
    rcases h.2 with ⟨_, h0⟩ | ⟨g, cap, cur, hv, _⟩
    · exact h0
    · simp [callsV] at hv
  | some q =>
    obtain ⟨b, m, c⟩ := q
    rcases h.2 with ⟨hv, _⟩ | ⟨g, cap, cur, hv, _⟩
    · simp [callsV] at hv
    · simp only [callsV, Value.slice.injEq] at hv; exact hv.2.1.symm

/-- What 'Push' gives, in full. -/
def PushRes3 (N B : Nat) (S : St) (w : World) (x sm : Nat) (g : Int → Option Nat) (en : Ending) (w' : World) : Prop :=
  ∃ i m, en = .returned (.int .i64 i) ∧ (Lit.int .i64 i).wf = true ∧ S m = none ∧ ∃ S', Goes B S w S' w' ∧ Sp (N + 1) S' x sm (fun j => if j = i then some m else g j) ∧ (∀ m' w', nmOf S' m' w' = nmOf S m' w') ∧ ∃ gb c rm l, S' x = some (.space sm (some (gb, cntS S x + 1, c)) rm) ∧ S' gb = some (.row (l ++ [i]) c) ∧ l.length = cntS S x

set_option maxRecDepth 100000 in
set_option maxHeartbeats 1600000 in
theorem Push_new3 {B : Nat} {S : St} {w : World} (hN : N ≤ 100000) (hB : B ≤ w.heap.size) (h : Rep B w S) {x sm : Nat} {g : Int → Option Nat} (hp : Sp N S x sm g) :
    Calls Tryz.prog 11 #[.pointer (some ⟨x, 0, none⟩)] w fun en w' => PushRes3 N B S w x sm g en w' := by
  obtain ⟨i0, hi0, hz0, hz1, hz2⟩ := info_parts infoInt
  have HBG := Lib.hid (begin_new hB h hp)
  go_enter Tryz.func11, Tryz.ntmps11
  go_wp2_with (first | (go_at_call 34; refine HBG.out.mono ?_; rintro e w1 ⟨i, S1, m, rfl, hwfi, hG1, hp1, hfr1, hnm1, hxx1⟩; obtain ⟨cs1, rm1, r1, hx1, hrm1, hcs1⟩ := hp1.space; obtain ⟨y0, y1, _, _, yf⟩ := hG1.rep.space hx1; obtain ⟨n, l, hnN, hln, hlw, hown, hrow⟩ := calls_own hG1.rep hcs1; have HCN : Hid (n = cntS S x) := (by show _ = _; rw [cntS, ← hxx1, hx1]; exact own_cnt hown); obtain ⟨cv, hcv⟩ : ∃ cv, callsV cs1 = cv := ⟨_, rfl⟩; rw [hcv] at y1 hown hrow; clear hcv) | (at_builtin; refine wpList_append_own_at _ rfl _ _ 49 rfl B 3 i0 (.int .i64 0) 1 8 Tryz.underlying49 hi0 hz0 hz1 hz2 rfl (by decide) cv n (l.map iv) rfl (hown.alloc _) ⟨w1.heap.size, 0, none⟩ 1 1 [.int .i64 i] rfl rfl (cell_one_new _ _ _) (by simp [Value.oneCell']) (by unfold maxLen; omega) (by omega) (by have := hG1.below.size; simp; omega) ?_; intro v' w2 hown' hgrow hnil hloc; obtain ⟨gb, c, hv', hc1, hc2, hgb, hG2⟩ := push_step hG1 hB _ hln hrow hgrow hown' hloc; simp only [callsV] at hv'; subst hv'; have hxx := rowS_other hrow hgb hx1 (by intros; simp) (l ++ [i]) c; obtain ⟨_, z1, _, _, zf⟩ := hG2.rep.space hxx; have zf1 := zf 1))
  all_goals
    go_ret
    obtain ⟨S', q1, q2, q3, q4, q5⟩ := push_end3 hp1 hx1 hG2 hrow hgb hln hnN hlw hwfi hc1 hc2 hnm1
    refine ⟨i, m, rfl, hwfi, hfr1, S', q1, q2, q3, gb, c, rm1, l, ?_, q5, ?_⟩
    · rw [← HCN.out]; exact q4
    · rw [← HCN.out]; exact hln

/-- What 'Push' gives: a number, which leads to a new scope. -/
def PushRes (N B : Nat) (S : St) (w : World) (x sm : Nat) (g : Int → Option Nat) (en : Ending) (w' : World) : Prop :=
  ∃ i m, en = .returned (.int .i64 i) ∧ (Lit.int .i64 i).wf = true ∧ S m = none ∧ ∃ S', Goes B S w S' w' ∧ Sp (N + 1) S' x sm (fun j => if j = i then some m else g j) ∧ ∀ m' w', nmOf S' m' w' = nmOf S m' w'

theorem Push_new {B : Nat} {S : St} {w : World} (hN : N ≤ 100000) (hB : B ≤ w.heap.size) (h : Rep B w S) {x sm : Nat} {g : Int → Option Nat} (hp : Sp N S x sm g) :
    Calls Tryz.prog 11 #[.pointer (some ⟨x, 0, none⟩)] w fun en w' => PushRes N B S w x sm g en w' :=
  (Push_new3 hN hB h hp).mono fun e w' ⟨i, m, q0, q1, q2, S', q3, q4, q5, _⟩ => ⟨i, m, q0, q1, q2, S', q3, q4, q5⟩
end Go.Proofs.YtcaifihdbcjakaaGreat

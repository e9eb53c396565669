/- 'Scope', 'Pop', 'Room' of a space of variables. -/
import Derived.Test.YtcaifihdbcjakaaGreatVPush
namespace Go.Proofs.YtcaifihdbcjakaaGreat
set_option linter.unusedVariables false
set_option linter.unusedSimpArgs false
open Go.RowKit
variable {N : Nat}

/-- A number of the row of calls. -/
theorem row_cell {B : Nat} {S : St} {w : World} (h : Rep B w S) {b n c : Nat} {l : List Int} (hb : S b = some (.row l c)) (hn : n < l.length) : w.cell? ⟨b, n, none⟩ = some (.int .i64 l[n]) := by
  obtain ⟨_, cur, hcur, hsz, htk⟩ := h b _ hb
  have h1 : cur.toList[n]? = some (.int .i64 l[n]) := by
    have h2 : (cur.toList.take l.length)[n]? = some (iv l[n]) := by rw [htk]; simp [hn]
    rw [List.getElem?_take] at h2
    rw [if_pos hn] at h2
    exact h2
  simp only [World.cell?, hcur]
  simpa using h1

set_option maxRecDepth 100000 in
set_option maxHeartbeats 1600000 in
theorem Scope_any {B : Nat} {S : St} {w : World} (hN : N ≤ 100000) (h : Rep B w S) {x sm : Nat} {g : Int → Option Nat} (hp : Sp N S x sm g) {i : Int} :
    Calls Tryz.prog 29 #[.pointer (some ⟨x, 0, none⟩), .int .i64 i] w fun en w' => (∃ a b, en = .returned (.tuple #[.int .i64 a, .int .i64 b])) ∧ w = w' := by
  obtain ⟨cs, rm, r, hx, hrm, hcs⟩ := hp.space
  obtain ⟨_, x1, _⟩ := h.space hx
  by_cases h0 : i < 0
  · have t1 : decide (i < 0) = true := by simpa using h0
    go_enter Tryz.func29, Tryz.ntmps29
    go_wp2_with fail
    go_ret2
    exact ⟨⟨_, _, rfl⟩, rfl⟩
  have t1 : decide (i < 0) = false := by simpa using h0
  cases cs with
  | none =>
    simp only [callsV] at x1
    by_cases h1 : 0 < i
    · have t2 : decide (0 < i) = true := by simpa using h1
      go_enter Tryz.func29, Tryz.ntmps29
      go_wp2_with fail
      go_ret2
      exact ⟨⟨_, _, rfl⟩, rfl⟩
    · obtain rfl : i = 0 := by omega
      go_enter Tryz.func29, Tryz.ntmps29
      go_wp2_with fail
      go_ret2
      exact ⟨⟨_, _, rfl⟩, rfl⟩
  | some t =>
    obtain ⟨b, n, c⟩ := t
    simp only [callsV] at x1
    obtain ⟨hnN, l, hb, h1, h2, h3, h4⟩ := hcs b n c rfl
    by_cases h5 : (n : Int) < i
    · have t2 : decide ((n : Int) < i) = true := by simpa using h5
      clear hcs
      go_enter Tryz.func29, Tryz.ntmps29
      go_wp2_with fail
      go_ret2
      exact ⟨⟨_, _, rfl⟩, rfl⟩
    · have t2 : decide ((n : Int) < i) = false := by simpa using h5
      by_cases h6 : i = 0
      · subst h6
        clear hcs
        go_enter Tryz.func29, Tryz.ntmps29
        go_wp2_with fail
        go_ret2
        exact ⟨⟨_, _, rfl⟩, rfl⟩
      · obtain ⟨j, rfl⟩ : ∃ j : Nat, i = (j : Int) + 1 := ⟨(i - 1).toNat, by omega⟩
        have hj : j < n := by omega
        have hjl : j < l.length := by omega
        have hc := row_cell h hb hjl
        have t3 : (((j : Int) + 1) == 0) = false := by rw [beq_eq_false_iff_ne]; omega
        have e1 : ((j : Int) + 1 - 1) = j := by omega
        clear hcs
        go_enter Tryz.func29, Tryz.ntmps29
        go_wp2_with fail
        go_ret2
        exact ⟨⟨_, _, rfl⟩, rfl⟩

theorem look_ok {P : Program} {kt et t : TypeId} {ι : Type} {enc : ι → Value} {w : World} {b : Nat} {g : ι → Option Value} (h : MapAt P kt enc w b g) (K : Maps.Keyed P kt) (ht : P.underlying t = some (.map kt et)) {z : Value} (hz : (zeroValue et).run P w = .ok z w) {k : ι} {l : Lit} (hk : keyOf P kt (enc k) = some l) :
    (Instr.lookup t (.map (some b)) (enc k) true).run P w = .ok (.tuple #[(g k).getD z, .bool (g k).isSome]) w := by
  obtain ⟨es, clock, hb, hs, hkeys, hg⟩ := h
  rcases K.find w hk es.toList (fun e he => by obtain ⟨k', l', _, h⟩ := hkeys e he; exact ⟨l', h⟩) with ⟨h1, h2⟩ | ⟨j, e0, h1, h2, h3⟩
  · have : g k = none := by
      cases hgk : g k with
      | none => rfl
      | some v => obtain ⟨e, he, hke, _⟩ := (hg k v).1 hgk; exact absurd hke (h2 e he)
    rw [this]
    simp [Instr.lookup, run_underlying ht, MapKept.run_getObj_map hb, K.check w _ hk, h1, hz, Result.andThen]
  · have : g k = some e0.val := (hg k e0.val).2 ⟨e0, List.mem_of_getElem? h2, h3, rfl⟩
    rw [this]
    simp [Instr.lookup, run_underlying ht, MapKept.run_getObj_map hb, K.check w _ hk, h1, Result.andThen]

set_option maxRecDepth 100000 in
set_option maxHeartbeats 1600000 in
theorem Room_any {B : Nat} {S : St} {w : World} (hB : B ≤ w.heap.size) (h : Rep B w S) {x sm : Nat} {g : Int → Option Nat} (hp : Sp N S x sm g) {word : Bs} (hw : word.length ≤ maxLen) :
    Calls Tryz.prog 22 #[.pointer (some ⟨x, 0, none⟩), .string ⟨word.toArray⟩] w fun en w' => (∃ i, en = .returned (.int .i64 i)) ∧ ActRes N B S w x sm w' := by
  obtain ⟨cs, rm, r, hx, hrm, hcs⟩ := hp.space
  obtain ⟨_, _, x2, _⟩ := h.space hx
  have hl := look_ok (h rm _ hrm).2 Skeyed (t := 48) (et := 3) Tryz.underlying48 (z := .int .i64 0) (zeroInt w) (skey hw)
  rw [show sv word = (Value.string ⟨word.toArray⟩) from rfl] at hl
  cases hr : r word with
  | some n =>
    rw [hr] at hl
    simp only [Option.map_some, Option.getD_some, Option.isSome_some, iv] at hl
    have HA : Hid (ActRes N B S w x sm w) := ⟨S, g, h.goes, hp⟩
    clear hcs hr
    go_enter Tryz.func22, Tryz.ntmps22
    go_wp2_with fail
    go_ret
    exact ⟨⟨n, rfl⟩, HA.out⟩
  | none =>
    rw [hr] at hl
    simp only [Option.map_none, Option.getD_none, Option.isSome_none] at hl
    have HBG := Lib.hid (begin_any hB h hp)
    clear hcs hr
    go_enter Tryz.func22, Tryz.ntmps22
    go_wp2_with (first | (go_at_call 34; refine HBG.out.mono ?_; rintro e w1 ⟨i, S1, m, rfl, hwfi, hG1, hp1⟩; obtain ⟨cs1, rm1, r1, hx1, hrm1, hcs1⟩ := hp1.space; obtain ⟨_, _, y2, _⟩ := hG1.rep.space hx1; have hown := (hG1.rep rm1 _ hrm1).2) | (at_mapUpdate; refine wpList_store rfl _ _ _ rfl Skeyed Tryz.underlying48 sv_inj hown word (skey hw) (.int .i64 i) rfl rfl rfl ?_; intro w' ho hma))
    go_ret
    refine ⟨⟨i, rfl⟩, S1.set rm1 (.rmap fun k => if k = word then some i else r1 k), (fun j => if j = i then some m else g j), hG1.write hrm1 ho ?_, hp1.wf.rooms hrm1, ?_, cs1, rm1, (fun k => if k = word then some i else r1 k), ?_, by simp [St.set], fun b n c e1 => ?_⟩
    · show MapAt _ _ _ _ _ _
      rw [show (fun k => (if k = word then some i else r1 k).map iv) = (fun k' => if k' = word then some (.int .i64 i) else (r1 k').map iv) from by funext k; by_cases hk : k = word <;> simp [hk, iv]]
      exact hma
    · have := hp1.smap; grind
    · grind
    · obtain ⟨h4, l, h5, h6⟩ := hcs1 b n c e1
      exact ⟨h4, l, by grind, h6⟩

set_option maxRecDepth 100000 in
set_option maxHeartbeats 1600000 in
theorem Pop_any {B : Nat} {S : St} {w : World} (hN : N ≤ 100000) (h : Rep B w S) {x sm : Nat} {g : Int → Option Nat} (hp : Sp N S x sm g) :
    Calls Tryz.prog 16 #[.pointer (some ⟨x, 0, none⟩)] w fun en w' => (∃ i, en = .returned (.int .i64 i)) ∧ ActRes N B S w x sm w' := by
  obtain ⟨cs, rm, r, hx, hrm, hcs⟩ := hp.space
  obtain ⟨x0, x1, _, _, xf⟩ := h.space hx
  have HA : Hid (ActRes N B S w x sm w) := ⟨S, g, h.goes, hp⟩
  cases cs with
  | none =>
    simp only [callsV] at x1
    go_enter Tryz.func16, Tryz.ntmps16
    go_wp2_with fail
    go_ret
    exact ⟨⟨_, rfl⟩, HA.out⟩
  | some t =>
    obtain ⟨b, n, c⟩ := t
    simp only [callsV] at x1
    obtain ⟨hnN, l, hb, h1, h2, h3, h4⟩ := hcs b n c rfl
    by_cases h0 : n = 0
    · subst h0
      clear hcs
      go_enter Tryz.func16, Tryz.ntmps16
      go_wp2_with fail
      go_ret
      exact ⟨⟨_, rfl⟩, HA.out⟩
    · obtain ⟨j, rfl⟩ : ∃ j, n = j + 1 := ⟨n - 1, by omega⟩
      have hjl : j < l.length := by omega
      have hc := row_cell h hb hjl
      have hli := h4 _ (List.getElem_mem hjl)
      have t3 : (((j + 1 : Nat) : Int) == 0) = false := by rw [beq_eq_false_iff_ne]; omega
      have hf1 := xf 1
      have e1 : (((j + 1 : Nat) : Int) - 1) = j := by omega
      have e2 : (j : Int) ≤ (c : Int) := by omega
      have e3 : j ≤ c := by omega
      have e4 : (0 : Int) ≤ (j : Int) := by omega
      have e5 : (j : Int) < (j : Int) + 1 := by omega
      have e6 : j < j + 1 := by omega
      have e7 : (j : Int) < ((j + 1 : Nat) : Int) := by omega
      have hsm := hp.smap
      have hwfl : (Lit.int .i64 l[j]).wf = true := by
        simp only [Lit.wf, Bool.and_eq_true, decide_eq_true_eq]; exact hli
      obtain ⟨w2, hrun, ho, hma⟩ := MapAt.delete (ty := 0) (h.goes.drew.rep sm _ hsm).2 Ikeyed (t := 47) (et := 46) Tryz.underlying47 iv_inj (ikey hwfl)
      have g2 := h.goes.drew.write (k := .smap fun i => if i = l[j] then none else g i) hsm ho (by
        show MapAt _ _ _ _ _ _
        rw [show (fun i => (if i = l[j] then none else g i).map fun m => mv (some m)) = (fun k' => if k' = l[j] then none else (g k').map fun m => mv (some m)) from by funext k; by_cases hk : k = l[j] <;> simp [hk]]
        exact hma)
      have hx2 : (S.set sm (.smap fun i => if i = l[j] then none else g i)) x = some (.space sm (some (b, j + 1, c)) rm) := by grind
      have hb2 : (S.set sm (.smap fun i => if i = l[j] then none else g i)) b = some (.row l c) := by grind
      obtain ⟨z0, z1, _, _, zf⟩ := g2.rep.space hx2
      simp only [callsV] at z1
      have zc := row_cell g2.rep hb2 hjl
      have zf1 := zf 1
      have hwf2 := hp.wf.unbind l[j] hsm
      have HF : Hid (ActRes N B S w x sm (w2.setCell ⟨x, 1, none⟩ (.slice (some ⟨b, 0, none⟩) j c))) := by
        obtain ⟨_, n', hbx⟩ := g2.rep x _ hx2
        refine ⟨(S.set sm (.smap fun i => if i = l[j] then none else g i)).set x (.space sm (some (b, j, c)) rm), (fun i => if i = l[j] then none else g i), g2.write hx2 (only_setCell _ _ 1 (.slice (some ⟨b, 0, none⟩) j c)) ⟨n', heap_setCell_same _ _ _ _ _ _ hbx⟩, hwf2.space hx2, by grind, some (b, j, c), rm, r, by simp [St.set], by grind, ?_⟩
        intro b' n1 c1 e
        cases e
        exact ⟨by omega, l, by grind, by omega, h2, h3, h4⟩
      have hrun' : (Builtin.delete_ #[47, 3] 0 #[.map (some sm), .int .i64 l[j]]).run Tryz.prog w.drew = .ok (.tuple #[]) w2 := hrun
      clear hcs hrun g2 hma ho hx2 hb2 hwf2 h4
      go_enter Tryz.func16, Tryz.ntmps16
      go_wp2_with fail
      go_region_held3 (fun w' => w'.cell? ⟨x, 0, none⟩ = some (.map (some sm)) ∧ w'.cell? ⟨x, 1, none⟩ = some (.slice (some ⟨b, 0, none⟩) (j + 1) c) ∧ w'.cell? ⟨b, j, none⟩ = some (.int .i64 l[j])) (first | go_keep) (fail)
      go_wp2_with fail
      go_ret
      exact ⟨⟨_, rfl⟩, HF.out⟩
end Go.Proofs.YtcaifihdbcjakaaGreat

/- The reference's fields of a rule. -/
import Derived.Test.YtkahakhhdiffcaaGreatDoorCNx9
import Derived.Deep.MidRow
namespace Go.Proofs.YtkahakhhdiffcaaGreatDoor
set_option linter.unusedVariables false
set_option linter.unusedSimpArgs false
open Go.RowKit Go.Shelf
/-- An array of truths. -/
def arrF (n : Nat) (F : Nat → Bool) : Array Value := ((List.range n).map fun i => Value.bool (F i)).toArray
theorem arrF_size (n : Nat) (F : Nat → Bool) : (arrF n F).size = n := by simp [arrF]
theorem arrF_get {n : Nat} {F : Nat → Bool} {i : Nat} (h : i < n) : (arrF n F)[i]? = some (.bool (F i)) := by simp [arrF, h]
theorem arrF_set {n : Nat} {F : Nat → Bool} (i : Nat) (b : Bool) : (arrF n F).setIfInBounds i (.bool b) = arrF n (fun k => if k = i then b else F k) := by
  apply Array.ext
  · simp [arrF]
  · intro j h1 h2
    simp [arrF, Array.getElem_setIfInBounds] at h1 h2 ⊢
    by_cases h : i = j
    · subst h; simp
    · simp [h, Ne.symm h]
theorem arrF_ext {n : Nat} {F G : Nat → Bool} (h : ∀ i, i < n → F i = G i) : arrF n F = arrF n G := by
  unfold arrF
  congr 1
  exact List.map_congr_left fun i hi => by rw [h i (List.mem_range.1 hi)]
/-- Block b holds an array of truths. -/
def ArrB (w : World) (b : Nat) (F : Nat → Bool) : Prop := w.heap[b]? = some (.cells (arrF 60 F) 58 (0, 0))
section
variable {w w' : World} {b : Nat} {F G : Nat → Bool}
theorem ArrB.lt (h : ArrB w b F) : b < w.heap.size := (Array.getElem?_eq_some_iff.1 h).1
theorem ArrB.cell (h : ArrB w b F) {i : Nat} (hi : i < 60) : w.cell? ⟨b, i, none⟩ = some (.bool (F i)) := by
  unfold ArrB at h
  have := arrF_get (F := F) hi
  simp only [World.cell?, h]
  exact this
theorem ArrB.frozen (h : ArrB w b F) (i : Nat) : w.frozen? ⟨b, i, none⟩ = false := by
  unfold ArrB at h
  simp [World.frozen?, h]
theorem ArrB.set (h : ArrB w b F) (i : Nat) (x : Bool) : ArrB (w.setCell ⟨b, i, none⟩ (.bool x)) b (fun k => if k = i then x else F k) ∧ MS b w (w.setCell ⟨b, i, none⟩ (.bool x)) := by
  unfold ArrB at h ⊢
  rw [setCell_eq_setRow w b i _ _ _ _ h, arrF_set]
  exact ⟨setRow_heap w b _ _ _ _ h, ⟨rfl, rfl, rfl, by simp [World.setRow], fun k _ hk => by simp [World.setRow, Array.getElem?_modify, Ne.symm hk]⟩⟩
theorem ArrB.ms {c : Nat} (h : ArrB w b F) (hm : MS c w w') (hb : b ≠ c) : ArrB w' b F := (hm.block b h.lt hb).trans h
theorem ArrB.low (h : ArrB w b F) (hm : Below w.heap.size w w') : ArrB w' b F := (hm.block b h.lt).trans h
theorem info60 : (Tryz.prog.info? 58).map (·.size) = some 60 := by kernel_rfl
theorem ArrB.loadVar (h : ArrB w b F) : (loadVar 58 ⟨b, 0, none⟩).run Tryz.prog w = .ok (.agg (arrF 60 F)) w :=
  run_loadVar_row w b _ _ _ _ _ h Tryz.underlying58 rfl (by rw [arrF_size]; exact info60)
theorem ArrB.load (h : ArrB w b F) : (Instr.loadAt 58 (.pointer (some ⟨b, 0, none⟩))).run Tryz.prog w = .ok (.agg (arrF 60 F)) w := by
  simp only [Instr.loadAt, Instr.sureAddr, Sem.run_bind, Sem.run_pure, Result.andThen_ok, h.loadVar]
theorem arrF_one (n : Nat) (F : Nat → Bool) : (arrF n F).all (·.oneCell') = true := by
  refine Array.all_eq_true_iff_forall_mem.2 (fun v hv => ?_)
  simp only [arrF, List.mem_toArray, List.mem_map] at hv
  obtain ⟨i, -, rfl⟩ := hv
  rfl
theorem ArrB.store (h : ArrB w b F) (G : Nat → Bool) : (Instr.storeAt 58 (.pointer (some ⟨b, 0, none⟩)) (.agg (arrF 60 G))).run Tryz.prog w = .ok () (w.setRow b (arrF 60 G)) ∧ ArrB (w.setRow b (arrF 60 G)) b G ∧ MS b w (w.setRow b (arrF 60 G)) := by
  refine ⟨?_, setRow_heap w b _ _ _ _ h, ⟨rfl, rfl, rfl, by simp [World.setRow], fun k _ hk => by simp [World.setRow, Array.getElem?_modify, Ne.symm hk]⟩⟩
  simp only [Instr.storeAt, Instr.sureAddr, Sem.run_bind, Sem.run_pure, Result.andThen_ok]
  exact run_storeVar_row w b _ _ _ _ h (by rw [arrF_size]; exact info60) (by rw [arrF_size, arrF_size]) (arrF_one _ _)
end
theorem wpList_arr_load {ops : Array Oper} {rest : List Oper} {op : Oper} {a : Act} {w : World} {Q : Exit → Act → World → Prop} (hgd : op.guard = none) (x : Operand) (ho : op.op = .load 58 x) {b : Nat} (hx : a.eval x = .pointer (some ⟨b, 0, none⟩)) {F : Nat → Bool} (h : ArrB w b F)
    (hk : wpList Tryz.prog ops Q rest (a.put op.dst (.agg (arrF 60 F))) w) : wpList Tryz.prog ops Q (op :: rest) a w := by
  refine wpList_plain hgd fun K' hK' => ?_
  unfold Oper.wp execOp
  simp only [ho, hx, Instr.loadAt, Instr.sureAddr, Sem.run_bind, Sem.run_pure, Result.andThen_ok, h.loadVar]
  exact hK' _ _ hk
theorem wpList_arr_store {ops : Array Oper} {rest : List Oper} {op : Oper} {a : Act} {w : World} {Q : Exit → Act → World → Prop} (hgd : op.guard = none) (x y : Operand) (ho : op.op = .store 58 x y) {b : Nat} (hx : a.eval x = .pointer (some ⟨b, 0, none⟩)) {F G : Nat → Bool} (hy : a.eval y = .agg (arrF 60 G)) (h : ArrB w b F)
    (hk : wpList Tryz.prog ops Q rest (a.put op.dst undef) (w.setRow b (arrF 60 G))) : wpList Tryz.prog ops Q (op :: rest) a w := by
  refine wpList_plain hgd fun K' hK' => ?_
  have hs : (storeVar 58 ⟨b, 0, none⟩ (.agg (arrF 60 G))).run Tryz.prog w = .ok () (w.setRow b (arrF 60 G)) := run_storeVar_row w b _ _ _ _ h (by rw [arrF_size]; exact info60) (by rw [arrF_size, arrF_size]) (arrF_one _ _)
  unfold Oper.wp execOp
  simp only [ho, hx, hy, Instr.storeAt, Instr.sureAddr, Sem.run_bind, Sem.run_pure, Result.andThen_ok, hs]
  exact hK' _ _ hk
theorem results_ct {P : Program} {fn : Func} {a u : Tmp} {t : TypeId} (h : fn.results = #[.cell a t, .tmp u]) (tmps : Array Value) {w : World} {b : Addr} (ha : tmps.getD a undef = .pointer (some b)) {v : Value} (hv : (loadVar t b).run P w = .ok v w) :
    (results fn tmps).run P w = .ok (.tuple #[v, tmps.getD u undef]) w := by
  simp only [results, h, List.mapM_toArray, List.mapM_cons, List.mapM_nil, ha]
  simp [asAddr, hv]
theorem arr_start (w : World) {w2 : World} (h : w2 = (w.alloc (.cells (arrF 60 (fun _ => false)) 58)).alloc (.cells (arrF 60 (fun _ => false)) 58)) :
    w2.heap.size = w.heap.size + 2 ∧ ArrB w2 w.heap.size (fun _ => false) ∧ ArrB w2 (w.heap.size + 1) (fun _ => false) ∧ Below w.heap.size w w2 := by
  subst h
  have h1 := heap_alloc_new w (.cells (arrF 60 (fun _ => false)) 58)
  have h2 := heap_alloc_new (w.alloc (.cells (arrF 60 (fun _ => false)) 58)) (.cells (arrF 60 (fun _ => false)) 58)
  simp only [World.size_alloc] at h2
  exact ⟨by simp, (Below.heap_alloc _ _ _ (by simp)).trans h1, h2, ((Below.refl _ w).alloc (Nat.le_refl _) _).alloc (by simp) _⟩
theorem range_none {lo hi n : Nat} : (fun k => rangeF lo hi n k && decide (k < lo)) = fun _ => false := by
  funext k
  unfold rangeF
  by_cases h : lo ≤ k
  · simp [show ¬ k < lo by omega]
  · simp [h]
theorem range_step {lo hi n j : Nat} (h1 : lo ≤ j) (h2 : j ≤ hi) : (fun k => if k = j then decide (j % n = 0) else (rangeF lo hi n k && decide (k < j))) = fun k => rangeF lo hi n k && decide (k < j + 1) := by
  funext k
  unfold rangeF
  by_cases h : k = j
  · subst h; simp [h1, h2]
  · have : decide (k < j + 1) = decide (k < j) := by rw [decide_eq_decide]; omega
    simp [h, this]
theorem range_all {lo hi n : Nat} : (fun k => rangeF lo hi n k && decide (k < hi + 1)) = rangeF lo hi n := by
  funext k
  unfold rangeF
  by_cases h : k ≤ hi
  · simp [show k < hi + 1 by omega]
  · simp [h]
set_option maxRecDepth 100000 in
set_option maxHeartbeats 1600000 in
theorem field_star (lo hi : Nat) (hlh : lo ≤ hi) (hhi : hi < 60) (w : World) (hE : ErrIs w) (hP : PowIs w) :
    Calls Tryz.prog 24 #[.string ⟨#[42]⟩, .int .i64 lo, .int .i64 hi] w fun e w' => e = .returned (.tuple #[.agg (arrF 60 (rangeF lo hi 1)), .bool true]) ∧ Below w.heap.size w w' := by
  obtain ⟨w2, hw2⟩ : ∃ w2, w2 = (w.alloc (.cells (arrF 60 (fun _ => false)) 58)).alloc (.cells (arrF 60 (fun _ => false)) 58) := ⟨_, rfl⟩
  obtain ⟨hsz, hA6, hA8, hB2⟩ := arr_start w hw2
  have HW2 := Lib.hid hw2
  have CP := Lib.hid (fun W => cutp_any [42] W)
  rw [show starS [42] = false from rfl] at CP
  simp only [Bool.false_eq_true, if_false] at CP
  have SM := Lib.hid (small_any [42] 1 59 (by decide) w2 (hE.below (hB2.mono (Nat.le_refl _))) (hP.low hB2))
  generalize atoiV [42] = n0 at *
  generalize okIn [42] 1 59 = b0 at *
  have HB2 := Lib.hid hB2
  have HA := Lib.hid (And.intro hA6 hA8)
  have HSZ := Lib.hid hsz
  clear hw2 hA6 hA8 hB2 hsz hE hP 
  go_enter Tryz.func24, Tryz.ntmps24
  go_wp2_with (first
    | (go_at_call 51; refine (CP.out _).mono ?_; rintro e w1 ⟨rfl, hw⟩; have hw' := HW2.out.trans hw; clear hw; subst hw')
    | (go_at_call 52; refine SM.out.mono ?_; rintro e w3 ⟨rfl, hB⟩; have H3 : Hid (ArrB w3 w.heap.size (fun _ => false) ∧ ArrB w3 (w.heap.size + 1) (fun _ => false) ∧ Below w.heap.size w w3) := ⟨HA.out.1.low hB, HA.out.2.low hB, HB2.out.trans (hB.mono HB2.out.size)⟩; clear hB))
  have RS : Hid (∀ j, lo ≤ j → j ≤ hi → (fun k => if k = j then decide (j % 1 = 0) else (rangeF lo hi 1 k && decide (k < j))) = fun k => rangeF lo hi 1 k && decide (k < j + 1)) := fun j h1 h2 => range_step h1 h2
  go_loopw [13] (fun v wr => ∃ j : Nat, lo ≤ j ∧ j ≤ hi + 1 ∧ v = .int .i64 (j : Int) ∧ ArrB wr (w.heap.size + 1) (fun k => rangeF lo hi 1 k && decide (k < j)) ∧ ArrB wr w.heap.size (fun _ => false) ∧ Below w.heap.size w wr) (fun v _ => hi + 1 - (intOf v).toNat)
  case atStart => exact ⟨lo, Nat.le_refl _, by omega, rfl, by rw [range_none]; exact H3.out.2.1, H3.out.1, H3.out.2.2⟩
  case round =>
    obtain ⟨j, hj1, hj2, rfl, hA, hA6, hB⟩ := hrel
    have HR := Lib.hid (And.intro hA (And.intro hA6 hB))
    by_cases hlt : j ≤ hi
    · have t1 : decide ((j : Int) ≤ (hi : Int)) = true := by rw [decide_eq_true_eq]; omega
      have i1 : j < 60 := by omega
      have i2 : (j : Int) < 60 := by omega
      have hw1 : IntKind.i64.wrap ((j : Int) + 1) = (j : Int) + 1 := IntWalk.i64_in _ (by omega)
      have hz : ((j : Int) % 1 == 0) = decide (j % 1 = 0) := by
        rw [Bool.eq_iff_iff, beq_iff_eq, decide_eq_true_eq]; omega
      have cx := hA.cell i1
      have fx := hA.frozen j
      have HS := Lib.hid (hA.set j (decide (j % 1 = 0)))
      have HRS := Lib.hid (RS.out j hj1 hlt)
      rw [show decide (j % 1 = 0) = true by simp [Nat.mod_one]] at HS HRS
      clear hA hA6 hB
      go_wp2_with fail
      go_roundw
      case rel => exact ⟨j + 1, by omega, by omega, by go_num, by have := HRS.out; rw [← this]; exact HS.out.1, HR.out.2.1.ms HS.out.2 (by omega), HR.out.2.2.trans (HS.out.2.below (by omega) HR.out.2.2.size)⟩
      case measure => simp [intOf]; omega
    · have t1 : decide ((j : Int) ≤ (hi : Int)) = false := by rw [decide_eq_false_iff_not]; omega
      obtain rfl : j = hi + 1 := by omega
      rw [range_all] at hA
      obtain ⟨hst, hA6', hms⟩ := hA6.store (rangeF lo hi 1)
      have hlv := hA6'.loadVar
      have HF := Lib.hid (hB.trans (hms.below (Nat.le_refl _) hB.size))
      have HA68 := Lib.hid (And.intro hA hA6)
      clear hA hA6 hB HR hA6' hms hst
      go_wp2_with (first | (refine wpList_arr_load rfl (.tmp 8) rfl rfl HA68.out.1 ?_) | (refine wpList_arr_store rfl (.tmp 6) (.tmp 52) rfl rfl rfl HA68.out.2 ?_))
      refine bodyPost_ret (results_ct rfl _ rfl hlv) rfl ⟨rfl, HF.out⟩
theorem okIn_ok {q : Bs} {lo hi : Nat} (h : okIn q lo hi = true) : atoiV q = (numS q : Int) ∧ lo ≤ numS q ∧ numS q ≤ hi := by
  obtain ⟨h1, h2, h3⟩ := okIn_in h
  have ho : okS q = true := by
    unfold okIn at h
    simp only [Bool.and_eq_true] at h
    exact h.1.1
  exact ⟨(small_law (okS_len ho) lo hi).2 ho, h2, h3⟩
set_option maxRecDepth 100000 in
set_option maxHeartbeats 1600000 in
theorem field_step (s : Bs) (hs : s.length ≤ 100000) (hst : starS s = true) (hok : okIn (s.drop 2) 1 59 = true) (lo hi : Nat) (hlh : lo ≤ hi) (hhi : hi < 60) (w : World) (hE : ErrIs w) (hP : PowIs w) :
    Calls Tryz.prog 24 #[.string ⟨s.toArray⟩, .int .i64 lo, .int .i64 hi] w fun e w' => e = .returned (.tuple #[.agg (arrF 60 (rangeF lo hi (numS (s.drop 2)))), .bool true]) ∧ Below w.heap.size w w' := by
  have hne : (s == [42]) = false := by
    rw [beq_eq_false_iff_ne]; rintro rfl; cases hst
  obtain ⟨hn1, hn2⟩ := okIn_ok hok
  obtain ⟨w2, hw2⟩ : ∃ w2, w2 = (w.alloc (.cells (arrF 60 (fun _ => false)) 58)).alloc (.cells (arrF 60 (fun _ => false)) 58) := ⟨_, rfl⟩
  obtain ⟨hsz, hA6, hA8, hB2⟩ := arr_start w hw2
  have HW2 := Lib.hid hw2
  have CP := Lib.hid (fun W => cutp_any s W)
  rw [if_pos hst, hst] at CP
  obtain ⟨q, hq⟩ : ∃ q, s.drop 2 = q := ⟨_, rfl⟩
  have hql : q.length ≤ 100000 := by rw [← hq, List.length_drop]; omega
  rw [hq] at CP hok hn1 hn2 ⊢
  have SM := Lib.hid (small_any q 1 59 (by exact hql) w2 (hE.below (hB2.mono (Nat.le_refl _))) (hP.low hB2))
  rw [hok, hn1] at SM
  generalize numS q = st at *
  obtain ⟨hs1, hs2⟩ := hn2
  have hst0 : ((st : Int) == 0) = false := by rw [beq_eq_false_iff_ne]; omega
  have HB2 := Lib.hid hB2
  have HA := Lib.hid (And.intro hA6 hA8)
  have HSZ := Lib.hid hsz
  clear hw2 hA6 hA8 hB2 hsz hE hP hst hok hn1 hq
  go_enter Tryz.func24, Tryz.ntmps24
  go_wp2_with (first
    | (go_at_call 51; refine (CP.out _).mono ?_; rintro e w1 ⟨rfl, hw⟩; have hw' := HW2.out.trans hw; clear hw; subst hw')
    | (go_at_call 52; refine SM.out.mono ?_; rintro e w3 ⟨rfl, hB⟩; have H3 : Hid (ArrB w3 w.heap.size (fun _ => false) ∧ ArrB w3 (w.heap.size + 1) (fun _ => false) ∧ Below w.heap.size w w3) := ⟨HA.out.1.low hB, HA.out.2.low hB, HB2.out.trans (hB.mono HB2.out.size)⟩; clear hB))
  have RS : Hid (∀ j, lo ≤ j → j ≤ hi → (fun k => if k = j then decide (j % st = 0) else (rangeF lo hi st k && decide (k < j))) = fun k => rangeF lo hi st k && decide (k < j + 1)) := fun j h1 h2 => range_step h1 h2
  go_loopw [13] (fun v wr => ∃ j : Nat, lo ≤ j ∧ j ≤ hi + 1 ∧ v = .int .i64 (j : Int) ∧ ArrB wr (w.heap.size + 1) (fun k => rangeF lo hi st k && decide (k < j)) ∧ ArrB wr w.heap.size (fun _ => false) ∧ Below w.heap.size w wr) (fun v _ => hi + 1 - (intOf v).toNat)
  case atStart => exact ⟨lo, Nat.le_refl _, by omega, rfl, by rw [range_none]; exact H3.out.2.1, H3.out.1, H3.out.2.2⟩
  case round =>
    obtain ⟨j, hj1, hj2, rfl, hA, hA6, hB⟩ := hrel
    have HR := Lib.hid (And.intro hA (And.intro hA6 hB))
    by_cases hlt : j ≤ hi
    · have t1 : decide ((j : Int) ≤ (hi : Int)) = true := by rw [decide_eq_true_eq]; omega
      have i1 : j < 60 := by omega
      have i2 : (j : Int) < 60 := by omega
      have hw1 : IntKind.i64.wrap ((j : Int) + 1) = (j : Int) + 1 := IntWalk.i64_in _ (by omega)
      have hz : ((j : Int) % (st : Int) == 0) = decide (j % st = 0) := by
        rw [Bool.eq_iff_iff, beq_iff_eq, decide_eq_true_eq]; omega
      have cx := hA.cell i1
      have fx := hA.frozen j
      have HS := Lib.hid (hA.set j (decide (j % st = 0)))
      have HRS := Lib.hid (RS.out j hj1 hlt)
      generalize decide (j % st = 0) = x at *
      clear hA hA6 hB
      go_wp2_with fail
      go_roundw
      case rel => exact ⟨j + 1, by omega, by omega, by go_num, by have := HRS.out; rw [← this]; exact HS.out.1, HR.out.2.1.ms HS.out.2 (by omega), HR.out.2.2.trans (HS.out.2.below (by omega) HR.out.2.2.size)⟩
      case measure => simp [intOf]; omega
    · have t1 : decide ((j : Int) ≤ (hi : Int)) = false := by rw [decide_eq_false_iff_not]; omega
      obtain rfl : j = hi + 1 := by omega
      rw [range_all] at hA
      obtain ⟨hst, hA6', hms⟩ := hA6.store (rangeF lo hi st)
      have hlv := hA6'.loadVar
      have HF := Lib.hid (hB.trans (hms.below (Nat.le_refl _) hB.size))
      have HA68 := Lib.hid (And.intro hA hA6)
      clear hA hA6 hB HR hA6' hms hst
      go_wp2_with (first | (refine wpList_arr_load rfl (.tmp 8) rfl rfl HA68.out.1 ?_) | (refine wpList_arr_store rfl (.tmp 6) (.tmp 52) rfl rfl rfl HA68.out.2 ?_))
      refine bodyPost_ret (results_ct rfl _ rfl hlv) rfl ⟨rfl, HF.out⟩
set_option maxRecDepth 100000 in
set_option maxHeartbeats 1600000 in
theorem field_bad (s : Bs) (hs : s.length ≤ 100000) (hst : starS s = true) (hok : okIn (s.drop 2) 1 59 = false) (lo hi : Nat) (hlh : lo ≤ hi) (hhi : hi < 60) (w : World) (hE : ErrIs w) (hP : PowIs w) :
    Calls Tryz.prog 24 #[.string ⟨s.toArray⟩, .int .i64 lo, .int .i64 hi] w fun e w' => e = .returned (.tuple #[.agg (arrF 60 (fun _ => false)), .bool false]) ∧ Below w.heap.size w w' := by
  have hne : (s == [42]) = false := by
    rw [beq_eq_false_iff_ne]; rintro rfl; cases hst
  obtain ⟨w2, hw2⟩ : ∃ w2, w2 = (w.alloc (.cells (arrF 60 (fun _ => false)) 58)).alloc (.cells (arrF 60 (fun _ => false)) 58) := ⟨_, rfl⟩
  obtain ⟨hsz, hA6, hA8, hB2⟩ := arr_start w hw2
  have HW2 := Lib.hid hw2
  have CP := Lib.hid (fun W => cutp_any s W)
  rw [if_pos hst, hst] at CP
  obtain ⟨q, hq⟩ : ∃ q, s.drop 2 = q := ⟨_, rfl⟩
  have hql : q.length ≤ 100000 := by rw [← hq, List.length_drop]; omega
  rw [hq] at CP hok
  have SM := Lib.hid (small_any q 1 59 (by exact hql) w2 (hE.below (hB2.mono (Nat.le_refl _))) (hP.low hB2))
  rw [hok] at SM
  generalize atoiV q = n0 at *
  have HB2 := Lib.hid hB2
  have HA := Lib.hid (And.intro hA6 hA8)
  have HSZ := Lib.hid hsz
  clear hw2 hA6 hA8 hB2 hsz hE hP hst hok hq
  go_enter Tryz.func24, Tryz.ntmps24
  go_wp2_with (first
    | (go_at_call 51; refine (CP.out _).mono ?_; rintro e w1 ⟨rfl, hw⟩; have hw' := HW2.out.trans hw; clear hw; subst hw')
    | (go_at_call 52; refine SM.out.mono ?_; rintro e w3 ⟨rfl, hB⟩; have H3 : Hid (ArrB w3 w.heap.size (fun _ => false) ∧ ArrB w3 (w.heap.size + 1) (fun _ => false) ∧ Below w.heap.size w w3) := ⟨HA.out.1.low hB, HA.out.2.low hB, HB2.out.trans (hB.mono HB2.out.size)⟩; clear hB))
  go_loopw [13] (fun v wr => wr = w3 ∧ v = .int .i64 lo) (fun v _ => 0)
  case atStart => exact ⟨rfl, rfl⟩
  case round =>
    obtain ⟨rfl, rfl⟩ := hrel
    have t1 : decide ((lo : Int) ≤ (hi : Int)) = true := by rw [decide_eq_true_eq]; omega
    obtain ⟨hst, hA6', hms⟩ := H3.out.1.store (fun _ => false)
    have hlv := hA6'.loadVar
    have HF := Lib.hid (H3.out.2.2.trans (hms.below (Nat.le_refl _) H3.out.2.2.size))
    clear hA6' hms hst
    go_wp2_with (first | (refine wpList_arr_load rfl (.tmp 8) rfl rfl H3.out.2.1 ?_) | (refine wpList_arr_store rfl (.tmp 6) (.tmp 52) rfl rfl rfl H3.out.1 ?_))
    refine bodyPost_ret (results_ct rfl _ rfl hlv) rfl ⟨rfl, HF.out⟩
end Go.Proofs.YtkahakhhdiffcaaGreatDoor

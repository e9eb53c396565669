/- The reference's 'Next': the walk. -/
import Derived.Test.YtkahakhhdiffcaaGreatDoorCNxC
import Derived.BigQuiet
import Derived.Deep.WholeRow
namespace Go.Proofs.YtkahakhhdiffcaaGreatDoor
set_option linter.unusedVariables false
set_option linter.unusedSimpArgs false
open Go.RowKit Go.Shelf
theorem hiF_60 (k : Nat) : hiF k < 60 := by
  match k with
  | 0 => decide
  | 1 => decide
  | 2 => decide
  | 3 => decide
  | k + 4 => exact (show 7 < 60 by decide)
/-- What 'field' tells, the array as a list of cells. -/
def FldB (o : Option (Nat → Bool)) (cs : List Value) (b : Bool) : Prop := match o with
  | none => b = false
  | some F => b = true ∧ cs = boolL F
theorem fldB_of {o : Option (Nat → Bool)} {e : Ending} {W w' : World} (h : FieldRes o e) (hb : Below W.heap.size W w') : ∃ (cs : List Value) (b : Bool), e = .returned (.tuple #[.agg cs.toArray, .bool b]) ∧ Below W.heap.size W w' ∧ cs.length = 60 ∧ (∀ v ∈ cs, v.oneCell' = true) ∧ FldB o cs b := by
  cases o with
  | none =>
    obtain ⟨G, rfl⟩ := h
    exact ⟨boolL G, false, rfl, hb, boolL_len G, boolL_one G, rfl⟩
  | some F =>
    obtain rfl := (show e = _ from h)
    exact ⟨boolL F, true, rfl, hb, boolL_len F, boolL_one F, rfl, rfl⟩
theorem info_len {cs : List Value} (h : cs.length = 60) : (Tryz.prog.info? 58).map (·.size) = some cs.length := by rw [h]; exact info60
theorem arr_there {w : World} {b : Nat} {F : Nat → Bool} (h : ArrB w b F) : w.there b 0 60 := fun j hj => by
  have := h.cell hj
  rw [Nat.zero_add]
  exact ⟨by rw [this]; rfl, h.frozen j⟩
theorem th60b (w : World) : (w.alloc (.cells (arrF 60 (fun _ => false)) 58)).there w.heap.size 0 60 := arr_there (heap_alloc_new w _)
theorem th60 {w w6 : World} (h : Below (w.alloc (.cells (arrF 60 (fun _ => false)) 58)).heap.size (w.alloc (.cells (arrF 60 (fun _ => false)) 58)) w6) : w6.there w.heap.size 0 60 :=
  arr_there (F := fun _ => false) ((h.block _ (by simp)).trans (heap_alloc_new w _))
theorem th60d {w w6 : World} (h : Below (w.alloc (.cells (arrF 60 (fun _ => false)) 58)).drew.heap.size (w.alloc (.cells (arrF 60 (fun _ => false)) 58)).drew w6) : w6.there w.heap.size 0 60 :=
  arr_there (F := fun _ => false) ((h.block _ (by show _ < (w.alloc _).heap.size; simp)).trans (heap_alloc_new w _))
theorem lit60 : (#[.bool false, .bool false, .bool false, .bool false, .bool false, .bool false, .bool false, .bool false, .bool false, .bool false, .bool false, .bool false, .bool false, .bool false, .bool false, .bool false, .bool false, .bool false, .bool false, .bool false, .bool false, .bool false, .bool false, .bool false, .bool false, .bool false, .bool false, .bool false, .bool false, .bool false, .bool false, .bool false, .bool false, .bool false, .bool false, .bool false, .bool false, .bool false, .bool false, .bool false, .bool false, .bool false, .bool false, .bool false, .bool false, .bool false, .bool false, .bool false, .bool false, .bool false, .bool false, .bool false, .bool false, .bool false, .bool false, .bool false, .bool false, .bool false, .bool false, .bool false] : Array Value) = arrF 60 (fun _ => false) := rfl
/-- Sixty truths lie in block b; sixty cells may be written there. -/
structure RowB (w : World) (b : Nat) (F : Nat → Bool) : Prop where
  r : w.rangeAt b 0 (boolL F)
structure Thr (w : World) (b o : Nat) : Prop where
  t : w.there b o 60
theorem wpList_rowload {ops : Array Oper} {rest : List Oper} {op : Oper} {a : Act} {w : World} {Q : Exit → Act → World → Prop} (hgd : op.guard = none) (x : Operand) (ho : op.op = .load 58 x) {b : Nat} (hx : a.eval x = .pointer (some ⟨b, 0, none⟩)) {F : Nat → Bool} (h : RowB w b F)
    (hk : wpList Tryz.prog ops Q rest (a.put op.dst (.agg (boolL F).toArray)) w) : wpList Tryz.prog ops Q (op :: rest) a w :=
  wpList_load_mid hgd _ x ho b 0 hx (boolL F) _ h.r Tryz.underlying58 rfl (by rw [boolL_len]; exact info60) hk
theorem wpList_rowstore {ops : Array Oper} {rest : List Oper} {op : Oper} {a : Act} {w : World} {Q : Exit → Act → World → Prop} (hgd : op.guard = none) (x y : Operand) (ho : op.op = .store 58 x y) {b o : Nat} (h : Thr w b o) (hx : a.eval x = .pointer (some ⟨b, o, none⟩)) {F : Nat → Bool} (hy : a.eval y = .agg (boolL F).toArray)
    (hk : wpList Tryz.prog ops Q rest (a.put op.dst undef) (w.setCells b o (boolL F))) : wpList Tryz.prog ops Q (op :: rest) a w :=
  wpList_store_mid hgd _ x y ho b o (boolL F).toArray hx hy (by rw [List.size_toArray, boolL_len]; exact h.t) (by rw [List.size_toArray, boolL_len]; exact info60) (all_oneCell_toArray (boolL_one F)) hk
/-- What holds while the reference reads fields. -/
structure RxR (w : World) (l : List Bs) (sb b9 k : Nat) (Fs : List (Nat → Bool)) (G : Nat → Nat → Bool) (W : World) : Prop where
  fit : Fit5 W b9 G
  len : Fs.length = k
  tell : fieldsL l 0 = (fieldsL (l.drop k) k).map (Fs ++ ·)
  all : ∀ i (h : i < Fs.length), G i = Fs[i]
  sp : SpR W sb l
  lo : ∀ i, i < 5 → W.cell? ⟨b9 - 2, i, none⟩ = some (.int .i64 (loF i))
  hi : ∀ i, i < 5 → W.cell? ⟨b9 - 1, i, none⟩ = some (.int .i64 (hiF i))
  below : Below w.heap.size w W
theorem RxR.low {w : World} {l : List Bs} {sb b9 k : Nat} {Fs : List (Nat → Bool)} {G : Nat → Nat → Bool} {W W' : World} (h : RxR w l sb b9 k Fs G W) (hb : Below W.heap.size W W') : RxR w l sb b9 k Fs G W' :=
  ⟨h.fit.low hb, h.len, h.tell, h.all, h.sp.low hb, fun i hi => (hb.cell (p := ⟨b9 - 2, i, none⟩) (by have := Lib.lt_of_cell (h.lo i hi); exact this)).trans (h.lo i hi), fun i hi => (hb.cell (p := ⟨b9 - 1, i, none⟩) (by have := Lib.lt_of_cell (h.hi i hi); exact this)).trans (h.hi i hi), h.below.trans (hb.mono h.below.size)⟩
theorem Fit5.thereAt {w : World} {b : Nat} {G : Nat → Nat → Bool} (h : Fit5 w b G) {i : Nat} (hi : i < 5) : w.there b (60 * i) 60 := fun j hj => by
  have := h.there (60 * i + j) (by omega)
  rwa [Nat.zero_add] at this
theorem RxR.put {w : World} {l : List Bs} {sb b9 k : Nat} {Fs : List (Nat → Bool)} {G : Nat → Nat → Bool} {W : World} (h : RxR w l sb b9 k Fs G W) (hb : w.heap.size < b9) (hk : k < 5) {x : Bs} {F : Nat → Bool} (hx : l.drop k = x :: l.drop (k + 1)) (hsb : sb < b9)
    (ht : fieldsL (l.drop k) k = (fieldsL (l.drop (k + 1)) (k + 1)).map (F :: ·)) : RxR w l sb b9 (k + 1) (Fs ++ [F]) (fun j d => if j = k then F d else G j d) (W.setCells b9 (60 * k) (boolL F)) := by
  obtain ⟨h1, h2⟩ := h.fit.put hk F
  have hne : ∀ b, b < b9 → b < W.heap.size → ∀ i, (W.setCells b9 (60 * k) (boolL F)).cell? ⟨b, i, none⟩ = W.cell? ⟨b, i, none⟩ := fun b hb1 hb2 i => by
    have := h2.block b hb2 (by omega)
    unfold World.cell?
    simp only [this]
  refine ⟨h1, by simp [h.len], ?_, fun i hi => ?_, h.sp.ms h2 (by omega), fun i hi => ?_, fun i hi => ?_, h.below.trans (h2.below (by omega) h.below.size)⟩
  · rw [h.tell, ht, Option.map_map]
    congr 1
    funext x
    simp
  · have hl := h.len
    simp at hi
    by_cases e : i = k
    · subst e
      simp [← hl]
    · rw [List.getElem_append_left (by omega)]
      funext d
      rw [if_neg e, h.all i (by omega)]
  · have hc := h.lo i hi
    have hl := Lib.lt_of_cell hc
    rw [hne (b9 - 2) (by omega) hl]; exact hc
  · have hc := h.hi i hi
    have hl := Lib.lt_of_cell hc
    rw [hne (b9 - 1) (by omega) hl]; exact hc
theorem rx_of {w : World} {l : List Bs} {t : Int} {sb b9 : Nat} {Fs : List (Nat → Bool)} {G : Nat → Nat → Bool} {V : World} (h : RxR w l sb b9 5 Fs G V) (hl : l.length = 5) : ∃ F : Fits, nextF t (fieldsL l 0) = (match nextT F t with | some x => (x, 0) | none => (0, 8)) ∧ G 0 = F.mi ∧ G 1 = F.ho ∧ G 2 = F.da ∧ G 3 = F.mo ∧ G 4 = F.wd := by
  have h1 := h.len
  have ha := h.all
  have ht := h.tell
  rw [List.drop_eq_nil_of_le (by omega)] at ht
  match Fs, h1 with
  | [a, b, c, d, e], _ =>
    exact ⟨⟨a, b, c, d, e⟩, by rw [ht]; rfl, ha 0 (by simp), ha 1 (by simp), ha 2 (by simp), ha 3 (by simp), ha 4 (by simp)⟩
theorem Fit5.ms {w w' : World} {b c : Nat} {G : Nat → Nat → Bool} (h : Fit5 w b G) (hm : MS c w w') (hb : b ≠ c) : Fit5 w' b G := by
  have hlt : b < w.heap.size := by have := Lib.lt_of_cell (h.cell 0 0 (by omega) (by omega)); exact this
  have e := hm.block b hlt hb
  refine ⟨fun i d h1 h2 => ?_, fun j hj => ?_⟩
  · have := h.cell i d h1 h2
    unfold World.cell? at this ⊢
    simp only [e]
    exact this
  · have := h.there j hj
    unfold World.cell? World.frozen? at this ⊢
    simp only [e]
    exact this
theorem rx_start {w w4 : World} {l : List Bs} {sb : Nat} (hs : SpR w4 sb l) (hB : Below w.heap.size w w4) {w7 : World}
    (h : w7 = ((w4.alloc (.cells #[.int .i64 0, .int .i64 0, .int .i64 1, .int .i64 1, .int .i64 1] 3)).alloc (.cells #[.int .i64 59, .int .i64 23, .int .i64 31, .int .i64 12, .int .i64 7] 3)).alloc (.cells (arrF 300 (fun _ => false)) 59)) :
    RxR w l sb (w4.heap.size + 2) 0 [] (fun _ _ => false) w7 := by
  have h1 := heap_alloc_new w4 (.cells #[.int .i64 0, .int .i64 0, .int .i64 1, .int .i64 1, .int .i64 1] 3)
  have h2 := heap_alloc_new (w4.alloc (.cells #[.int .i64 0, .int .i64 0, .int .i64 1, .int .i64 1, .int .i64 1] 3)) (.cells #[.int .i64 59, .int .i64 23, .int .i64 31, .int .i64 12, .int .i64 7] 3)
  have h3 := heap_alloc_new ((w4.alloc (.cells #[.int .i64 0, .int .i64 0, .int .i64 1, .int .i64 1, .int .i64 1] 3)).alloc (.cells #[.int .i64 59, .int .i64 23, .int .i64 31, .int .i64 12, .int .i64 7] 3)) (.cells (arrF 300 (fun _ => false)) 59)
  simp only [World.size_alloc] at h2 h3
  have hb : Below w4.heap.size w4 w7 := by subst h; exact (((Below.refl _ w4).alloc (Nat.le_refl _) _).alloc (by simp) _).alloc (by simp <;> omega) _
  rw [← h] at h3
  have e1 : w7.heap[w4.heap.size]? = some (.cells #[.int .i64 0, .int .i64 0, .int .i64 1, .int .i64 1, .int .i64 1] 3 (0, 0)) := by subst h; exact (Below.heap_alloc _ _ _ (by simp <;> omega)).trans ((Below.heap_alloc _ _ _ (by simp)).trans h1)
  have e2 : w7.heap[w4.heap.size + 1]? = some (.cells #[.int .i64 59, .int .i64 23, .int .i64 31, .int .i64 12, .int .i64 7] 3 (0, 0)) := by subst h; exact (Below.heap_alloc _ _ _ (by simp)).trans h2
  refine ⟨⟨fun i d h1 h2 => ?_, fun j hj => ?_⟩, rfl, by simp, fun i h => by simp at h, hs.low hb, fun i hi => ?_, fun i hi => ?_, hB.trans (hb.mono hB.size)⟩
  · have := arrF_get (F := fun _ => false) (show 60 * i + d < 300 by omega)
    simp only [World.cell?, h3]
    exact this
  · have := arrF_get (F := fun _ => false) hj
    have e : w7.cell? ⟨w4.heap.size + 2, 0 + j, none⟩ = some (.bool false) := by
      rw [Nat.zero_add]
      simp only [World.cell?, h3]
      exact this
    refine ⟨by rw [e]; rfl, ?_⟩
    simp only [World.frozen?, h3]
    simp
  · rw [show w4.heap.size + 2 - 2 = w4.heap.size by omega]
    simp only [World.cell?, e1]
    match i, hi with
    | 0, _ => rfl
    | 1, _ => rfl
    | 2, _ => rfl
    | 3, _ => rfl
    | 4, _ => rfl
  · rw [show w4.heap.size + 2 - 1 = w4.heap.size + 1 by omega]
    simp only [World.cell?, e2]
    match i, hi with
    | 0, _ => rfl
    | 1, _ => rfl
    | 2, _ => rfl
    | 3, _ => rfl
    | 4, _ => rfl
/-- What holds while the reference tries days. -/
structure RxJ (w : World) (F : Fits) (b9 b15 : Nat) (G : Nat → Nat → Bool) (q : Int) (W : World) : Prop where
  fit : Fit5 W b9 G
  box : DBox W b15 (dd q).y (dd q).m (dd q).d
  below : Below w.heap.size w W
theorem info300 : (Tryz.prog.info? 59).map (fun i => (i.zero, i.size)) = some (some (.agg (arrF 300 (fun _ => false))), 300) := by kernel_rfl
theorem zero300 : ∀ w, (zeroValue 59).run Tryz.prog w = .ok (.agg (arrF 300 (fun _ => false))) w := (zero_of_info info300).1
set_option maxRecDepth 100000 in
set_option maxHeartbeats 6400000 in
theorem rNext_main (t : Int) (rule : Bs) (hs : rule.length ≤ 100000) (hv : validI t = true) (hn : (Lib.split rule [32]).length = 5) (w : World) (hM : MaxIs w) (hE : ErrIs w) (hP : PowIs w) :
    Calls Tryz.prog 8 #[.int .i64 t, .string ⟨rule.toArray⟩] w fun e w' => e = .returned (.tuple #[.int .i64 (nextF t (fieldsL (Lib.split rule [32]) 0)).1, .int .i64 (nextF t (fieldsL (Lib.split rule [32]) 0)).2]) ∧ Below w.heap.size w w' := by
  have VA := Lib.hid (fun W => rright_any t W)
  rw [hv] at VA
  have SP := Lib.hid (words_any rule hs w hM)
  have K : Hid (∀ W, Below w.heap.size w W → ErrIs W ∧ PowIs W ∧ MaxIs W) := fun W hB => ⟨hE.below hB, hP.low hB, hM.low hB⟩
  have hwl : ∀ x ∈ Lib.split rule [32], x.length ≤ 100000 := fun x hx => by have := split_len [32] _ _ x hx; omega
  generalize Lib.split rule [32] = l at *
  rw [hn] at SP
  have HWL := Lib.hid hwl
  have HL := Lib.hid hn
  have HV := Lib.hid hv
  have hz := zero300
  clear hn hwl hv hM hE hP hs
  go_enter Tryz.func8, Tryz.ntmps8
  go_wp2_with (first | (go_at_call 23; refine (VA.out _).mono ?_; rintro e w1 ⟨rfl, rfl⟩) | (go_at_call 18; refine SP.out.mono ?_; rintro e w4 ⟨rfl, hsr, hBs⟩; have HR0 := Lib.hid (rx_start hsr hBs rfl); have HS4 := Lib.hid hsr.lt; clear hsr hBs))
  obtain ⟨w7, hw7⟩ : ∃ w7, ((w4.alloc (.cells #[.int .i64 0, .int .i64 0, .int .i64 1, .int .i64 1, .int .i64 1] 3)).alloc (.cells #[.int .i64 59, .int .i64 23, .int .i64 31, .int .i64 12, .int .i64 7] 3)).alloc (.cells (arrF 300 (fun _ => false)) 59) = w7 := ⟨_, rfl⟩
  rw [hw7] at HR0 ⊢
  obtain ⟨b9, hb9⟩ : ∃ b9, w4.heap.size + 1 + 1 = b9 := ⟨_, rfl⟩
  rw [show w4.heap.size + 2 = b9 from hb9] at HR0
  rw [hb9, show w4.heap.size + 1 = b9 - 1 by omega, show w4.heap.size = b9 - 2 by omega]
  obtain ⟨b7, hb7⟩ : ∃ b7, b9 - 2 = b7 := ⟨_, rfl⟩
  obtain ⟨b8, hb8⟩ : ∃ b8, b9 - 1 = b8 := ⟨_, rfl⟩
  have hS4 := HS4.out
  rw [hb7, hb8]
  have HBB : Hid (b9 - 2 = b7 ∧ b9 - 1 = b8 ∧ b7 < b9 ∧ b8 < b9 ∧ w.heap.size < b9) := ⟨hb7, hb8, by omega, by omega, by omega⟩
  clear hb7 hb8 hw7 HS4 hS4 SP hz
  go_loopw [10, 11, 12, 13, 31] (fun _ _ _ _ v wr => ∃ (k : Nat) (Fs : List (Nat → Bool)) (G : Nat → Nat → Bool), k ≤ 5 ∧ v = .int .i64 (k : Int) ∧ RxR w l w.heap.size b9 k Fs G wr) (fun _ _ _ _ v _ => 5 - (intOf v).toNat)
  case atStart => exact ⟨0, [], _, by omega, rfl, HR0.out⟩
  case round =>
    obtain ⟨k, Fs, G, hk, rfl, hR⟩ := hrel
    have HR := Lib.hid hR
    by_cases hlt : k < 5
    · have hkl : k < l.length := by have := HL.out; omega
      have HX := Lib.hid (List.drop_eq_getElem_cons hkl)
      have hxl := HWL.out l[k] (List.getElem_mem _)
      have cx := hR.sp.at_ k hkl
      generalize l[k] = x at *
      have t1 : decide ((k : Int) < 5) = true := by rw [decide_eq_true_eq]; omega
      have i1 : k < 5 := hlt
      have i2 : (k : Int) < 5 := by omega
      have hw1 : IntKind.i64.wrap ((k : Int) + 1) = (k : Int) + 1 := IntWalk.i64_in _ (by omega)
      obtain ⟨lo, hlo⟩ : ∃ lo, loF k = lo := ⟨_, rfl⟩
      obtain ⟨hi, hhi⟩ : ∃ hi, hiF k = hi := ⟨_, rfl⟩
      have hb := loF_hi k
      have h60 := hiF_60 k
      have c0 := hR.lo k hlt
      have c1 := hR.hi k hlt
      rw [hlo] at hb c0
      rw [hhi] at hb h60 c1
      rw [HBB.out.1] at c0
      rw [HBB.out.2.1] at c1
      have FO := Lib.hid (fun W (hB : Below w.heap.size w W) => field_any x hxl lo hi hb.1 h60 W (K.out W hB).1 (K.out W hB).2.1 (K.out W hB).2.2)
      have HHL := Lib.hid (And.intro hlo hhi)
      clear hR hxl hb h60 hlo hhi hkl
      go_wp2_with fail
      obtain ⟨S0, hS0⟩ : ∃ S0 : World → Prop, S0 = fun w' => Below wr.heap.size wr w' := ⟨_, rfl⟩
      have k0 : S0 wr := by rw [hS0]; exact Below.refl _ _
      have k1 : ∀ W, S0 W → S0 W.drew := by intro W hW; rw [hS0] at hW ⊢; exact hW.drew
      have k2 : ∀ W W', S0 W → Below W.heap.size W W' → S0 W' := by intro W W' hW hb; rw [hS0] at hW ⊢; exact hW.trans (hb.mono hW.size)
      have k3 : ∀ W o, S0 W → S0 (W.alloc o) := by intro W o hW; rw [hS0] at hW ⊢; exact hW.alloc hW.size o
      have k4 : ∀ W b cs, S0 W → wr.heap.size ≤ b → S0 (W.setCells b 0 cs) := by intro W b cs hW hb; rw [hS0] at hW ⊢; exact hW.trans ((ms_setCells W b 0 cs).below hb hW.size)
      have k5 : ∀ W, S0 W → wr.heap.size ≤ W.heap.size := by intro W hW; rw [hS0] at hW; exact hW.size
      have kS : ∀ W, S0 W → S0 W ∧ W.cell? ⟨w.heap.size, k, none⟩ = some (.string ⟨x.toArray⟩) ∧ W.cell? ⟨b7, k, none⟩ = some (.int .i64 (lo : Int)) ∧ W.cell? ⟨b8, k, none⟩ = some (.int .i64 (hi : Int)) := by
        intro W hW
        refine ⟨hW, ?_⟩
        rw [hS0] at hW
        exact ⟨(hW.cell (p := ⟨w.heap.size, k, none⟩) (by have := Lib.lt_of_cell cx; exact this)).trans cx, (hW.cell (p := ⟨b7, k, none⟩) (by have := Lib.lt_of_cell c0; exact this)).trans c0, (hW.cell (p := ⟨b8, k, none⟩) (by have := Lib.lt_of_cell c1; exact this)).trans c1⟩
      have FO2 : Hid (∀ W, S0 W → Calls Tryz.prog 24 #[.string ⟨x.toArray⟩, .int .i64 lo, .int .i64 hi] W fun e w' => ∃ (cs : List Value) (b : Bool), e = .returned (.tuple #[.agg cs.toArray, .bool b]) ∧ Below W.heap.size W w' ∧ cs.length = 60 ∧ (∀ v ∈ cs, v.oneCell' = true) ∧ FldB (fieldP x lo hi) cs b) := by
        intro W hW
        rw [hS0] at hW
        exact (FO.out W (HR.out.below.trans (hW.mono HR.out.below.size))).mono fun e w' h => fldB_of h.1 h.2
      have kSS : ∀ W, S0 W → Hid (S0 W) := fun W h => h
      have HS0 := Lib.hid hS0
      clear hS0 FO
      go_region_held3 (fun w' => S0 w' ∧ w'.cell? ⟨w.heap.size, k, none⟩ = some (.string ⟨x.toArray⟩) ∧ w'.cell? ⟨b7, k, none⟩ = some (.int .i64 (lo : Int)) ∧ w'.cell? ⟨b8, k, none⟩ = some (.int .i64 (hi : Int))) (first | go_keep | (exact kS _ (k2 _ _ (by go_split_ands; assumption) hbx)) | (exact kS _ (k2 _ _ (by go_split_ands; first | exact k1 _ (by assumption) | exact k3 _ _ (by assumption) | exact k1 _ (k3 _ _ (by assumption)) | exact k3 _ _ (k1 _ (by assumption))) hbx)) | (exact kS _ (k1 _ (by go_split_ands; assumption))) | (exact kS _ (k3 _ _ (by go_split_ands; assumption))) | (exact kS _ (k4 _ _ _ (by go_split_ands; assumption) (by first | exact Nat.le_refl _ | assumption)))) ((go_at_call 24; refine (FO2.out _ (by first | assumption | exact k1 _ (by assumption) | exact k3 _ _ (by assumption) | exact k1 _ (k3 _ _ (by assumption)) | exact k3 _ _ (k1 _ (by assumption)))).mono ?_; rintro e w6 ⟨cs, bb, rfl, hbx, hlen, hone, HM⟩; have hs6 : wr.heap.size ≤ w6.heap.size := k5 _ (k2 _ _ (by first | assumption | exact k1 _ (by assumption) | exact k3 _ _ (by assumption) | exact k1 _ (k3 _ _ (by assumption)) | exact k3 _ _ (k1 _ (by assumption))) hbx); have hinf := info_len hlen; have hth6 := th60b w6; try (first | (have hth := th60 hbx) | (have hth := th60d hbx))))
      all_goals (rename_i hHeld; have hZ0 := hHeld.1; clear hHeld)
      all_goals (try simp only [lit60] at *)
      all_goals (first
        | (have hR12 := World.rangeAt_setCells_same w6 wr.heap.size 0 cs (by rw [hlen]; exact hth); have hZS := kSS _ (hZ0 : S0 (w6.setCells wr.heap.size 0 cs)); generalize w6.setCells wr.heap.size 0 cs = Z at hR12 hZS ⊢; generalize wr.heap.size = b12 at hR12 ⊢)
        | (have hR12 := World.rangeAt_setCells_same (w6.alloc (.cells (arrF 60 (fun _ => false)) 58)) w6.heap.size 0 cs (by rw [hlen]; exact hth6); have hZS := kSS _ (hZ0 : S0 ((w6.alloc (.cells (arrF 60 (fun _ => false)) 58)).setCells w6.heap.size 0 cs)); generalize (w6.alloc (.cells (arrF 60 (fun _ => false)) 58)).setCells w6.heap.size 0 cs = Z at hR12 hZS ⊢; generalize w6.heap.size = b12 at hR12 ⊢))
      all_goals
        have hb : Below wr.heap.size wr Z := by have h := hZS.out; rw [HS0.out] at h; exact h
        have HRZ := Lib.hid (HR.out.low hb)
        have hdt := fieldsL_drop HX.out HHL.out.1 HHL.out.2
        clear k0 k1 k2 k3 k4 k5 kS kSS hth6 hs6 hZ0 hZS hbx HR HS0 FO2 cx c0 c1 hb
        cases hfp : fieldP x lo hi with
        | none =>
          rw [hfp] at HM hdt
          have hbb : bb = false := HM
          subst hbb
          have ht := HRZ.out.tell
          rw [hdt] at ht
          have HT := Lib.hid ht
          have HB := Lib.hid HRZ.out.below
          clear HM hdt ht
          go_wp2_with fail
          go_ret2
          exact ⟨by rw [HT.out]; rfl, HB.out⟩
        | some F =>
          rw [hfp] at HM hdt
          obtain ⟨hbb, hcs⟩ := (show bb = true ∧ cs = boolL F from HM)
          subst hbb
          subst hcs
          have HPT := Lib.hid (HRZ.out.put HBB.out.2.2.2.2 hlt HX.out HBB.out.2.2.2.2 hdt)
          have hthere : Z.there b9 (60 * k) 60 := HRZ.out.fit.thereAt hlt
          clear HM hdt
          have HRB := Lib.hid (RowB.mk hR12)
          have HTH := Lib.hid (Thr.mk hthere)
          clear hR12 hthere hinf hlen hone hfp
          go_wp2_with (first | (refine wpList_rowload (F := F) rfl (.tmp 12) rfl rfl ?_ ?_; exact HRB.out) | (refine wpList_rowstore (b := b9) (o := 60 * k) (F := F) rfl (.tmp 53) (.tmp 52) rfl ?_ (by simp [Act.eval, Act.put, Nat.mul_comm]) rfl ?_; exact HTH.out; generalize Z.setCells b9 (60 * k) (boolL F) = Z2 at HPT ⊢))
          exact ⟨⟨k + 1, _, _, by omega, by go_num, HPT.out⟩, by simp [intOf]; omega⟩
    · obtain rfl : k = 5 := by omega
      have t1 : decide (((5 : Nat) : Int) < 5) = false := by decide
      obtain ⟨F, hN, hG0, hG1, hG2, hG3, hG4⟩ := rx_of (t := t) hR HL.out
      have HN := Lib.hid hN
      have hti := validI_in HV.out
      have HFT := Lib.hid hR.fit
      have HBW := Lib.hid hR.below
      have hb9 : b9 < wr.heap.size := by have := Lib.lt_of_cell (hR.fit.cell 0 0 (by omega) (by omega)); exact this
      have HBN := HBB.out.2.2.2.2
      obtain ⟨q0, hq0⟩ : ∃ q0, t / 86400 = q0 := ⟨_, rfl⟩
      have e1 : IntKind.i64.wrap (t + 62135596800) = t + 62135596800 := IntWalk.i64_in _ (by omega)
      have e2 : (t + 62135596800).tmod 86400 = t % 86400 := by rw [Int.tmod_eq_emod_of_nonneg (by omega)]; omega
      have e2' : (t + 62135596800) % 86400 = t % 86400 := by omega
      have e3 : IntKind.i64.wrap (t - t % 86400) = q0 * 86400 := by rw [show t - t % 86400 = q0 * 86400 by omega]; exact IntWalk.i64_in _ (by omega)
      have RD := Lib.hid (fun W => rdate_any (q0 * 86400) (by omega) (by omega) W)
      have RW := Lib.hid (fun W => rweekday_any (q0 * 86400) (by omega) (by omega) W)
      have hdz : dateC (q0 * 86400) = dd q0 := rfl
      rw [hdz] at RD
      obtain ⟨-, -, hd3, hd4, hd5⟩ := dd_ok (n := q0) (by omega)
      obtain ⟨res, hres⟩ : ∃ res, nextT F t = res := ⟨_, rfl⟩
      rw [hres] at HN
      have HRES : Hid (dayS (F.hit t) (dayK q0) q0 = res) := by
        show _ = _
        rw [← hres, ← hq0]; rfl
      have HQ := Lib.hid hq0
      have hq01 : -719162 ≤ q0 ∧ q0 ≤ 2932896 := by omega
      clear hR HR hres hN hq0
      unfold DT.v at RD
      rw [hd3, hd4, hd5] at RD
      go_wp2_with (first
        | (go_at_call 25; refine (RD.out _).mono ?_; rintro e w8 ⟨rfl, hB⟩; have HF8 : Hid (Fit5 w8 b9 G ∧ Below w.heap.size w w8 ∧ b9 < w8.heap.size) := ⟨HFT.out.low hB, HBW.out.trans (hB.mono HBW.out.size), Nat.lt_of_lt_of_le hb9 hB.size⟩; clear hB)
        | (go_at_call 26; refine (RW.out _).mono ?_; rintro e w9 ⟨rfl, rfl⟩))
      obtain ⟨b15, hb15⟩ : ∃ b15, w8.heap.size = b15 := ⟨_, rfl⟩
      have HJ0 : Hid (RxJ w F b9 b15 G q0 (w8.alloc (.cells #[.int .i64 (dd q0).y, .int .i64 (dd q0).m, .int .i64 (dd q0).d, .int .i64 0, .int .i64 0, .int .i64 0] 39))) := by
        have h1 := heap_alloc_new w8 (.cells #[.int .i64 (dd q0).y, .int .i64 (dd q0).m, .int .i64 (dd q0).d, .int .i64 0, .int .i64 0, .int .i64 0] 39)
        rw [hb15] at h1
        exact ⟨HF8.out.1.low ((Below.refl _ w8).alloc (Nat.le_refl _) _), h1, HF8.out.2.1.alloc HF8.out.2.1.size _⟩
      rw [hb15]
      obtain ⟨w10, hw10⟩ : ∃ w10, w8.alloc (.cells #[.int .i64 (dd q0).y, .int .i64 (dd q0).m, .int .i64 (dd q0).d, .int .i64 0, .int .i64 0, .int .i64 0] 39) = w10 := ⟨_, rfl⟩
      rw [hw10] at HJ0 ⊢
      have hb915 : b9 < b15 := by have := HF8.out.2.2; omega
      have hb0 : w.heap.size ≤ b15 := by omega
      clear hw10 hb15 e1 e2 e2' e3 hdz hd3 hd4 hd5 RD RW
      go_loopw [16, 17, 18, 87] (fun v16 v17 _ _ wr => ∃ q : Int, q0 ≤ q ∧ q ≤ 2932897 ∧ v16 = .int .i64 (wdC (q * 86400)) ∧ v17 = .int .i64 (q * 86400) ∧ RxJ w F b9 b15 G q wr ∧ Hid (dayS (F.hit t) (dayK q) q = res)) (fun _ v17 _ _ _ => (253402387200 - intOf v17).toNat)
      case atStart => exact ⟨q0, by omega, by omega, rfl, rfl, HJ0.out, HRES.out⟩
      case round =>
        obtain ⟨q, hq1, hq2, rfl, rfl, hJ, HE⟩ := hrel
        by_cases hlt : q ≤ 2932896
        · have t2 : decide (q * 86400 ≤ 253402300799) = true := by rw [decide_eq_true_eq]; omega
          have hqm : -719162 ≤ q := by omega
          obtain ⟨hdo, -, -, -, -⟩ := dd_ok hqm
          have hd1 := hdo.d1
          have hdn := hdo.dn
          have hm1 := hdo.m1
          have hm12 := hdo.m12
          have hy1 := hdo.y1
          have hdg := dim_ge (dd q).y (dd q).m
          have hyr := dd_year (n := q) hqm
          have hwd : 1 ≤ wdC (q * 86400) ∧ wdC (q * 86400) ≤ 7 := by rw [wd_day]; omega
          have HDY : Hid (F.day q = (F.da (dd q).d.toNat && F.mo (dd q).m.toNat && F.wd (wdC (q * 86400)).toNat)) := rfl
          have HSTEP : Hid (res = match F.hit t q with | some a => some a | none => dayS (F.hit t) (dayK (q + 1)) (q + 1)) := HE.out.symm.trans (dayS_step (F.hit t) hlt)
          have HWN := Lib.hid (wd_next q)
          have HNX := dd_next hqm
          obtain ⟨nd, hnd⟩ : ∃ nd : Nat, (dd q).d = (nd : Int) := ⟨(dd q).d.toNat, by omega⟩
          obtain ⟨nm, hnm⟩ : ∃ nm : Nat, (dd q).m = (nm : Int) := ⟨(dd q).m.toNat, by omega⟩
          obtain ⟨nw, hnw⟩ : ∃ nw : Nat, wdC (q * 86400) = (nw : Int) := ⟨(wdC (q * 86400)).toNat, by omega⟩
          have hbox := hJ.box
          have F2 := hJ.fit.cell 2 nd (by omega) (by omega)
          have F3 := hJ.fit.cell 3 nm (by omega) (by omega)
          have F4 := hJ.fit.cell 4 nw (by omega) (by omega)
          rw [hG2] at F2
          rw [hG3] at F3
          rw [hG4] at F4
          rw [show 60 * 2 + nd = 120 + nd from rfl] at F2
          rw [show 60 * 3 + nm = 180 + nm from rfl] at F3
          rw [show 60 * 4 + nw = 240 + nw from rfl] at F4
          have HJ := Lib.hid hJ
          obtain ⟨y, hy⟩ : ∃ y, (dd q).y = y := ⟨_, rfl⟩
          simp only [hnd, hnm, hy] at hbox HNX hdg hdn
          rw [hnd, hnm, hnw, Int.toNat_natCast, Int.toNat_natCast, Int.toNat_natCast] at HDY
          rw [hnd] at hd1
          rw [hnm] at hm1 hm12
          rw [hnw] at HWN hwd
          rw [hy] at hy1 hyr
          rw [hnw]
          clear hnd hnm hy hJ hdo
          obtain ⟨cd0, cd1, cd2, -, -, -⟩ := hbox.cell
          have i2 : nd < 60 := by omega
          have i2' : (nd : Int) < 60 := by omega
          have i3 : nm < 60 := by omega
          have i3' : (nm : Int) < 60 := by omega
          have i4 : nw < 60 := by omega
          have i4' : (nw : Int) < 60 := by omega
          have NEXT : Hid (∀ W, MS b15 wr W → DBox W b15 (nextD y nm nd).1 (nextD y nm nd).2.1 (nextD y nm nd).2.2 → F.hit t q = none → RxJ w F b9 b15 G (q + 1) W ∧ dayS (F.hit t) (dayK (q + 1)) (q + 1) = res) := by
            intro W hms hbx hh
            refine ⟨⟨HJ.out.fit.ms hms (by omega), by rw [HNX]; exact hbx, HJ.out.below.trans (hms.below hb0 HJ.out.below.size)⟩, ?_⟩
            have := HSTEP.out
            rw [hh] at this
            exact this.symm
          generalize F.da nd = ba at *
          generalize F.mo nm = bm at *
          generalize F.wd nw = bw at *
          have hw7 : (nw : Int).tmod 7 = (nw : Int) % 7 := by rw [Int.tmod_eq_emod_of_nonneg (by omega)]
          have hw8 : IntKind.i64.wrap ((nw : Int) % 7 + 1) = (nw : Int) % 7 + 1 := IntWalk.i64_in _ (by omega)
          have hw9 : IntKind.i64.wrap ((nd : Int) + 1) = (nd : Int) + 1 := IntWalk.i64_in _ (by omega)
          have hw17 : IntKind.i64.wrap (q * 86400 + 86400) = (q + 1) * 86400 := by rw [show q * 86400 + 86400 = (q + 1) * 86400 by omega]; exact IntWalk.i64_in _ (by omega)
          have fd2 := hbox.frozen 2
          have RLEN := Lib.hid (fun W => rlength_any y nm (by omega) W)
          cases ba with
          | false =>
            have HH : Hid (F.hit t q = none) := by show _ = _; unfold Fits.hit; rw [HDY.out]; rfl
            go_wp2_with fail
            clear F2 F3 F4 hm1
            obtain ⟨hm4, hbx4⟩ := hbox.set.2.2 ((nd : Int) + 1)
            generalize wr.setCell ⟨b15, 2, none⟩ (.int .i64 ((nd : Int) + 1)) = W4 at hm4 hbx4 ⊢
            clear cd0 cd1 cd2 fd2
            obtain ⟨cd0, cd1, cd2, -, -, -⟩ := hbx4.cell
            go_quiet ((go_at_call 27; exact Calls.quiet_of_same ((RLEN.out _).mono fun e w' h => ⟨h.1, h.2.symm⟩)))
            have hm5 : MS b15 wr (World.drewN W4 nq) := hm4.trans (MS.drew nq)
            have hbx5 : DBox (World.drewN W4 nq) b15 y nm ((nd : Int) + 1) := hbx4
            clear cd0 cd1 cd2 hm4 hbx4
            generalize World.drewN W4 nq = W5 at hm5 hbx5 ⊢
            obtain ⟨cd0, cd1, cd2, -, -, -⟩ := hbx5.cell
            by_cases hd2 : dim y nm < (nd : Int) + 1
            · have t4 : decide (dim y nm < (nd : Int) + 1) = true := by rw [decide_eq_true_eq]; exact hd2
              obtain ⟨hm6, hbx6⟩ := hbx5.set.2.2 1
              obtain ⟨hm7, hbx7⟩ := hbx6.set.2.1 ((nm : Int) + 1)
              have hf2 := hbx5.frozen 2
              have hf1 := hbx6.frozen 1
              obtain ⟨ce0, ce1, ce2, -, -, -⟩ := hbx6.cell
              obtain ⟨W7, hW7⟩ : ∃ W7, (W5.setCell ⟨b15, 2, none⟩ (.int .i64 1)).setCell ⟨b15, 1, none⟩ (.int .i64 ((nm : Int) + 1)) = W7 := ⟨_, rfl⟩
              have hm8 := (hm5.trans hm6).trans hm7
              rw [hW7] at hm8 hbx7
              have hwm : IntKind.i64.wrap ((nm : Int) + 1) = (nm : Int) + 1 := IntWalk.i64_in _ (by omega)
              obtain ⟨cg0, cg1, cg2, -, -, -⟩ := hbx7.cell
              by_cases hm2 : 12 < (nm : Int) + 1
              · have t5 : decide (12 < (nm : Int) + 1) = true := by rw [decide_eq_true_eq]; exact hm2
                have HE1 : Hid (nextD y nm nd = (y + 1, 1, 1)) := by show _ = _; unfold nextD; rw [if_pos hd2, if_pos hm2]
                have hwy : IntKind.i64.wrap (y + 1) = y + 1 := IntWalk.i64_in _ (by have := hyr.2 hlt; omega)
                obtain ⟨hm9, hbx9⟩ := hbx7.set.2.1 1
                obtain ⟨hm10, hbx10⟩ := hbx9.set.1 (y + 1)
                have gf1 := hbx7.frozen 1
                have gf0 := hbx9.frozen 0
                obtain ⟨ch0, ch1, ch2, -, -, -⟩ := hbx9.cell
                have HM := Lib.hid ((hm8.trans hm9).trans hm10)
                have HX1 := Lib.hid hbx10
                clear hm5 hm6 hm7 hm8 hm9 hm10 hbx5 hbx6 hbx7 hbx9 hbx10 hbox hyr
                go_wp2_with fail
                go_roundw
                case rel => exact ⟨q + 1, by omega, by omega, by rw [HWN.out], by go_num, (NEXT.out _ HM.out (by rw [HE1.out]; exact HX1.out) HH.out).1, (NEXT.out _ HM.out (by rw [HE1.out]; exact HX1.out) HH.out).2⟩
                case measure => simp [intOf]; omega
              · have t5 : decide (12 < (nm : Int) + 1) = false := by rw [decide_eq_false_iff_not]; exact hm2
                have HE1 : Hid (nextD y nm nd = (y, (nm : Int) + 1, 1)) := by show _ = _; unfold nextD; rw [if_pos hd2, if_neg hm2]
                have HM := Lib.hid hm8
                have HX1 := Lib.hid hbx7
                clear hm5 hm6 hm7 hm8 hbx5 hbx6 hbx7 hbox hyr
                go_wp2_with fail
                go_roundw
                case rel => exact ⟨q + 1, by omega, by omega, by rw [HWN.out], by go_num, (NEXT.out _ HM.out (by rw [HE1.out]; exact HX1.out) HH.out).1, (NEXT.out _ HM.out (by rw [HE1.out]; exact HX1.out) HH.out).2⟩
                case measure => simp [intOf]; omega
            · have t4 : decide (dim y nm < (nd : Int) + 1) = false := by rw [decide_eq_false_iff_not]; exact hd2
              have t5 : decide (12 < (nm : Int)) = false := by rw [decide_eq_false_iff_not]; omega
              have HE1 : Hid (nextD y nm nd = (y, (nm : Int), (nd : Int) + 1)) := by show _ = _; unfold nextD; rw [if_neg hd2]
              have HM := Lib.hid hm5
              have HX1 := Lib.hid hbx5
              clear hm5 hbx5 hbox hyr
              go_wp2_with fail
              go_roundw
              case rel => exact ⟨q + 1, by omega, by omega, by rw [HWN.out], by go_num, (NEXT.out _ HM.out (by rw [HE1.out]; exact HX1.out) HH.out).1, (NEXT.out _ HM.out (by rw [HE1.out]; exact HX1.out) HH.out).2⟩
              case measure => simp [intOf]; omega
          | true =>
            cases bm with
            | false =>
              have HH : Hid (F.hit t q = none) := by show _ = _; unfold Fits.hit; rw [HDY.out]; rfl
              go_wp2_with fail
              clear F2 F3 F4 hm1
              obtain ⟨hm4, hbx4⟩ := hbox.set.2.2 ((nd : Int) + 1)
              generalize wr.setCell ⟨b15, 2, none⟩ (.int .i64 ((nd : Int) + 1)) = W4 at hm4 hbx4 ⊢
              clear cd0 cd1 cd2 fd2
              obtain ⟨cd0, cd1, cd2, -, -, -⟩ := hbx4.cell
              go_quiet ((go_at_call 27; exact Calls.quiet_of_same ((RLEN.out _).mono fun e w' h => ⟨h.1, h.2.symm⟩)))
              have hm5 : MS b15 wr (World.drewN W4 nq) := hm4.trans (MS.drew nq)
              have hbx5 : DBox (World.drewN W4 nq) b15 y nm ((nd : Int) + 1) := hbx4
              clear cd0 cd1 cd2 hm4 hbx4
              generalize World.drewN W4 nq = W5 at hm5 hbx5 ⊢
              obtain ⟨cd0, cd1, cd2, -, -, -⟩ := hbx5.cell
              by_cases hd2 : dim y nm < (nd : Int) + 1
              · have t4 : decide (dim y nm < (nd : Int) + 1) = true := by rw [decide_eq_true_eq]; exact hd2
                obtain ⟨hm6, hbx6⟩ := hbx5.set.2.2 1
                obtain ⟨hm7, hbx7⟩ := hbx6.set.2.1 ((nm : Int) + 1)
                have hf2 := hbx5.frozen 2
                have hf1 := hbx6.frozen 1
                obtain ⟨ce0, ce1, ce2, -, -, -⟩ := hbx6.cell
                obtain ⟨W7, hW7⟩ : ∃ W7, (W5.setCell ⟨b15, 2, none⟩ (.int .i64 1)).setCell ⟨b15, 1, none⟩ (.int .i64 ((nm : Int) + 1)) = W7 := ⟨_, rfl⟩
                have hm8 := (hm5.trans hm6).trans hm7
                rw [hW7] at hm8 hbx7
                have hwm : IntKind.i64.wrap ((nm : Int) + 1) = (nm : Int) + 1 := IntWalk.i64_in _ (by omega)
                obtain ⟨cg0, cg1, cg2, -, -, -⟩ := hbx7.cell
                by_cases hm2 : 12 < (nm : Int) + 1
                · have t5 : decide (12 < (nm : Int) + 1) = true := by rw [decide_eq_true_eq]; exact hm2
                  have HE1 : Hid (nextD y nm nd = (y + 1, 1, 1)) := by show _ = _; unfold nextD; rw [if_pos hd2, if_pos hm2]
                  have hwy : IntKind.i64.wrap (y + 1) = y + 1 := IntWalk.i64_in _ (by have := hyr.2 hlt; omega)
                  obtain ⟨hm9, hbx9⟩ := hbx7.set.2.1 1
                  obtain ⟨hm10, hbx10⟩ := hbx9.set.1 (y + 1)
                  have gf1 := hbx7.frozen 1
                  have gf0 := hbx9.frozen 0
                  obtain ⟨ch0, ch1, ch2, -, -, -⟩ := hbx9.cell
                  have HM := Lib.hid ((hm8.trans hm9).trans hm10)
                  have HX1 := Lib.hid hbx10
                  clear hm5 hm6 hm7 hm8 hm9 hm10 hbx5 hbx6 hbx7 hbx9 hbx10 hbox hyr
                  go_wp2_with fail
                  go_roundw
                  case rel => exact ⟨q + 1, by omega, by omega, by rw [HWN.out], by go_num, (NEXT.out _ HM.out (by rw [HE1.out]; exact HX1.out) HH.out).1, (NEXT.out _ HM.out (by rw [HE1.out]; exact HX1.out) HH.out).2⟩
                  case measure => simp [intOf]; omega
                · have t5 : decide (12 < (nm : Int) + 1) = false := by rw [decide_eq_false_iff_not]; exact hm2
                  have HE1 : Hid (nextD y nm nd = (y, (nm : Int) + 1, 1)) := by show _ = _; unfold nextD; rw [if_pos hd2, if_neg hm2]
                  have HM := Lib.hid hm8
                  have HX1 := Lib.hid hbx7
                  clear hm5 hm6 hm7 hm8 hbx5 hbx6 hbx7 hbox hyr
                  go_wp2_with fail
                  go_roundw
                  case rel => exact ⟨q + 1, by omega, by omega, by rw [HWN.out], by go_num, (NEXT.out _ HM.out (by rw [HE1.out]; exact HX1.out) HH.out).1, (NEXT.out _ HM.out (by rw [HE1.out]; exact HX1.out) HH.out).2⟩
                  case measure => simp [intOf]; omega
              · have t4 : decide (dim y nm < (nd : Int) + 1) = false := by rw [decide_eq_false_iff_not]; exact hd2
                have t5 : decide (12 < (nm : Int)) = false := by rw [decide_eq_false_iff_not]; omega
                have HE1 : Hid (nextD y nm nd = (y, (nm : Int), (nd : Int) + 1)) := by show _ = _; unfold nextD; rw [if_neg hd2]
                have HM := Lib.hid hm5
                have HX1 := Lib.hid hbx5
                clear hm5 hbx5 hbox hyr
                go_wp2_with fail
                go_roundw
                case rel => exact ⟨q + 1, by omega, by omega, by rw [HWN.out], by go_num, (NEXT.out _ HM.out (by rw [HE1.out]; exact HX1.out) HH.out).1, (NEXT.out _ HM.out (by rw [HE1.out]; exact HX1.out) HH.out).2⟩
                case measure => simp [intOf]; omega
            | true =>
              cases bw with
              | false =>
                have HH : Hid (F.hit t q = none) := by show _ = _; unfold Fits.hit; rw [HDY.out]; rfl
                go_wp2_with fail
                clear F2 F3 F4 hm1
                obtain ⟨hm4, hbx4⟩ := hbox.set.2.2 ((nd : Int) + 1)
                generalize wr.setCell ⟨b15, 2, none⟩ (.int .i64 ((nd : Int) + 1)) = W4 at hm4 hbx4 ⊢
                clear cd0 cd1 cd2 fd2
                obtain ⟨cd0, cd1, cd2, -, -, -⟩ := hbx4.cell
                go_quiet ((go_at_call 27; exact Calls.quiet_of_same ((RLEN.out _).mono fun e w' h => ⟨h.1, h.2.symm⟩)))
                have hm5 : MS b15 wr (World.drewN W4 nq) := hm4.trans (MS.drew nq)
                have hbx5 : DBox (World.drewN W4 nq) b15 y nm ((nd : Int) + 1) := hbx4
                clear cd0 cd1 cd2 hm4 hbx4
                generalize World.drewN W4 nq = W5 at hm5 hbx5 ⊢
                obtain ⟨cd0, cd1, cd2, -, -, -⟩ := hbx5.cell
                by_cases hd2 : dim y nm < (nd : Int) + 1
                · have t4 : decide (dim y nm < (nd : Int) + 1) = true := by rw [decide_eq_true_eq]; exact hd2
                  obtain ⟨hm6, hbx6⟩ := hbx5.set.2.2 1
                  obtain ⟨hm7, hbx7⟩ := hbx6.set.2.1 ((nm : Int) + 1)
                  have hf2 := hbx5.frozen 2
                  have hf1 := hbx6.frozen 1
                  obtain ⟨ce0, ce1, ce2, -, -, -⟩ := hbx6.cell
                  obtain ⟨W7, hW7⟩ : ∃ W7, (W5.setCell ⟨b15, 2, none⟩ (.int .i64 1)).setCell ⟨b15, 1, none⟩ (.int .i64 ((nm : Int) + 1)) = W7 := ⟨_, rfl⟩
                  have hm8 := (hm5.trans hm6).trans hm7
                  rw [hW7] at hm8 hbx7
                  have hwm : IntKind.i64.wrap ((nm : Int) + 1) = (nm : Int) + 1 := IntWalk.i64_in _ (by omega)
                  obtain ⟨cg0, cg1, cg2, -, -, -⟩ := hbx7.cell
                  by_cases hm2 : 12 < (nm : Int) + 1
                  · have t5 : decide (12 < (nm : Int) + 1) = true := by rw [decide_eq_true_eq]; exact hm2
                    have HE1 : Hid (nextD y nm nd = (y + 1, 1, 1)) := by show _ = _; unfold nextD; rw [if_pos hd2, if_pos hm2]
                    have hwy : IntKind.i64.wrap (y + 1) = y + 1 := IntWalk.i64_in _ (by have := hyr.2 hlt; omega)
                    obtain ⟨hm9, hbx9⟩ := hbx7.set.2.1 1
                    obtain ⟨hm10, hbx10⟩ := hbx9.set.1 (y + 1)
                    have gf1 := hbx7.frozen 1
                    have gf0 := hbx9.frozen 0
                    obtain ⟨ch0, ch1, ch2, -, -, -⟩ := hbx9.cell
                    have HM := Lib.hid ((hm8.trans hm9).trans hm10)
                    have HX1 := Lib.hid hbx10
                    clear hm5 hm6 hm7 hm8 hm9 hm10 hbx5 hbx6 hbx7 hbx9 hbx10 hbox hyr
                    go_wp2_with fail
                    go_roundw
                    case rel => exact ⟨q + 1, by omega, by omega, by rw [HWN.out], by go_num, (NEXT.out _ HM.out (by rw [HE1.out]; exact HX1.out) HH.out).1, (NEXT.out _ HM.out (by rw [HE1.out]; exact HX1.out) HH.out).2⟩
                    case measure => simp [intOf]; omega
                  · have t5 : decide (12 < (nm : Int) + 1) = false := by rw [decide_eq_false_iff_not]; exact hm2
                    have HE1 : Hid (nextD y nm nd = (y, (nm : Int) + 1, 1)) := by show _ = _; unfold nextD; rw [if_pos hd2, if_neg hm2]
                    have HM := Lib.hid hm8
                    have HX1 := Lib.hid hbx7
                    clear hm5 hm6 hm7 hm8 hbx5 hbx6 hbx7 hbox hyr
                    go_wp2_with fail
                    go_roundw
                    case rel => exact ⟨q + 1, by omega, by omega, by rw [HWN.out], by go_num, (NEXT.out _ HM.out (by rw [HE1.out]; exact HX1.out) HH.out).1, (NEXT.out _ HM.out (by rw [HE1.out]; exact HX1.out) HH.out).2⟩
                    case measure => simp [intOf]; omega
                · have t4 : decide (dim y nm < (nd : Int) + 1) = false := by rw [decide_eq_false_iff_not]; exact hd2
                  have t5 : decide (12 < (nm : Int)) = false := by rw [decide_eq_false_iff_not]; omega
                  have HE1 : Hid (nextD y nm nd = (y, (nm : Int), (nd : Int) + 1)) := by show _ = _; unfold nextD; rw [if_neg hd2]
                  have HM := Lib.hid hm5
                  have HX1 := Lib.hid hbx5
                  clear hm5 hbx5 hbox hyr
                  go_wp2_with fail
                  go_roundw
                  case rel => exact ⟨q + 1, by omega, by omega, by rw [HWN.out], by go_num, (NEXT.out _ HM.out (by rw [HE1.out]; exact HX1.out) HH.out).1, (NEXT.out _ HM.out (by rw [HE1.out]; exact HX1.out) HH.out).2⟩
                  case measure => simp [intOf]; omega
              | true =>
                have hday : F.day q = true := HDY.out
                have HHIT : Hid (F.hit t q = (minS (F.at t q) 1440 0).map fun (m : Nat) => q * 86400 + 60 * (m : Int)) := by
                  show _ = _
                  unfold Fits.hit
                  rw [if_pos hday]
                clear hday
                go_wp2_with fail
                clear F2 F3 F4
                obtain ⟨wo, rfl⟩ : ∃ wo : World, wo = wr := ⟨_, rfl⟩
                go_loopw [18, 87] (fun _ v wy => ∃ m : Nat, m ≤ 1440 ∧ v = .int .i64 (m : Int) ∧ wo = wy ∧ Hid (minS (F.at t q) 1440 0 = minS (F.at t q) (1440 - m) m)) (fun _ v _ => 1440 - (intOf v).toNat)
                case atStart => exact ⟨0, by omega, rfl, rfl, rfl⟩
                case round =>
                  obtain ⟨m, hm, rfl, rfl, HMM⟩ := hrel
                  by_cases hltm : m < 1440
                  · have t6 : decide ((m : Int) < 1440) = true := by rw [decide_eq_true_eq]; omega
                    have hw1 : IntKind.i64.wrap ((m : Int) + 1) = (m : Int) + 1 := IntWalk.i64_in _ (by omega)
                    have hw2 : IntKind.i64.wrap (60 * (m : Int)) = 60 * (m : Int) := IntWalk.i64_in _ (by omega)
                    have hw3 : IntKind.i64.wrap (q * 86400 + 60 * (m : Int)) = q * 86400 + 60 * (m : Int) := IntWalk.i64_in _ (by omega)
                    have hdv : (m : Int).tdiv 60 = (m : Int) / 60 := by rw [Int.tdiv_eq_ediv_of_nonneg (by omega)]
                    have hrm : (m : Int).tmod 60 = (m : Int) % 60 := by rw [Int.tmod_eq_emod_of_nonneg (by omega)]
                    have HST : Hid (minS (F.at t q) (1440 - m) m = if F.at t q m = true then some m else minS (F.at t q) (1440 - (m + 1)) (m + 1)) := by
                      show _ = _
                      rw [show 1440 - m = (1440 - (m + 1)) + 1 by omega]
                      rfl
                    have HAT : Hid (F.at t q m = (decide (t < q * 86400 + 60 * (m : Int)) && F.ho (m / 60) && F.mi (m % 60))) := rfl
                    have F0 := HJ.out.fit.cell 0 (m % 60) (by omega) (by omega)
                    have F1 := HJ.out.fit.cell 1 (m / 60) (by omega) (by omega)
                    rw [hG0, show 60 * 0 + m % 60 = m % 60 by omega] at F0
                    rw [hG1, show 60 * 1 + m / 60 = 60 + m / 60 from rfl] at F1
                    have j1 : m / 60 < 60 := by omega
                    have j1' : (m : Int) / 60 < 60 := by omega
                    have j0 : m % 60 < 60 := by omega
                    have j0' : (m : Int) % 60 < 60 := by omega
                    have j1p : (0 : Int) ≤ (m : Int) / 60 := by omega
                    have j0p : (0 : Int) ≤ (m : Int) % 60 := by omega
                    have j1t : ((m : Int) / 60).toNat = m / 60 := by omega
                    have j0t : ((m : Int) % 60).toNat = m % 60 := by omega
                    generalize F.ho (m / 60) = bh at *
                    generalize F.mi (m % 60) = bi at *
                    obtain ⟨bt, hbt⟩ : ∃ bt, decide (t < q * 86400 + 60 * (m : Int)) = bt := ⟨_, rfl⟩
                    rw [hbt] at HAT
                    cases bt with
                    | false =>
                      have SK : Hid (minS (F.at t q) 1440 0 = minS (F.at t q) (1440 - (m + 1)) (m + 1)) := by
                        show _ = _
                        rw [HMM.out, HST.out, if_neg (by rw [HAT.out]; simp)]
                      go_wp2_with fail
                      go_roundw
                      case rel => exact ⟨m + 1, by omega, by go_num, trivial, SK.out⟩
                      case measure => simp [intOf]; omega
                    | true =>
                      cases bh with
                      | false =>
                        have SK : Hid (minS (F.at t q) 1440 0 = minS (F.at t q) (1440 - (m + 1)) (m + 1)) := by
                          show _ = _
                          rw [HMM.out, HST.out, if_neg (by rw [HAT.out]; simp)]
                        go_wp2_with fail
                        go_roundw
                        case rel => exact ⟨m + 1, by omega, by go_num, trivial, SK.out⟩
                        case measure => simp [intOf]; omega
                      | true =>
                        cases bi with
                        | false =>
                          have SK : Hid (minS (F.at t q) 1440 0 = minS (F.at t q) (1440 - (m + 1)) (m + 1)) := by
                            show _ = _
                            rw [HMM.out, HST.out, if_neg (by rw [HAT.out]; simp)]
                          go_wp2_with fail
                          go_roundw
                          case rel => exact ⟨m + 1, by omega, by go_num, trivial, SK.out⟩
                          case measure => simp [intOf]; omega
                        | true =>
                          have HRS : Hid (res = some (q * 86400 + 60 * (m : Int))) := by
                            show _ = _
                            rw [HSTEP.out, HHIT.out, HMM.out, HST.out, if_pos (by rw [HAT.out]; rfl)]
                            rfl
                          have HB := Lib.hid HJ.out.below
                          go_wp2_with fail
                          go_ret2
                          exact ⟨by rw [HN.out, HRS.out]; rfl, HB.out⟩
                  · obtain rfl : m = 1440 := by omega
                    have t6 : decide (((1440 : Nat) : Int) < 1440) = false := by decide
                    have HH : Hid (F.hit t q = none) := by show _ = _; rw [HHIT.out, HMM.out]; rfl
                    go_wp2_with fail
                    clear hm1
                    obtain ⟨hm4, hbx4⟩ := hbox.set.2.2 ((nd : Int) + 1)
                    generalize wo.setCell ⟨b15, 2, none⟩ (.int .i64 ((nd : Int) + 1)) = W4 at hm4 hbx4 ⊢
                    clear cd0 cd1 cd2 fd2
                    obtain ⟨cd0, cd1, cd2, -, -, -⟩ := hbx4.cell
                    go_quiet ((go_at_call 27; exact Calls.quiet_of_same ((RLEN.out _).mono fun e w' h => ⟨h.1, h.2.symm⟩)))
                    have hm5 : MS b15 wo (World.drewN W4 nq) := hm4.trans (MS.drew nq)
                    have hbx5 : DBox (World.drewN W4 nq) b15 y nm ((nd : Int) + 1) := hbx4
                    clear cd0 cd1 cd2 hm4 hbx4
                    generalize World.drewN W4 nq = W5 at hm5 hbx5 ⊢
                    obtain ⟨cd0, cd1, cd2, -, -, -⟩ := hbx5.cell
                    by_cases hd2 : dim y nm < (nd : Int) + 1
                    · have t4 : decide (dim y nm < (nd : Int) + 1) = true := by rw [decide_eq_true_eq]; exact hd2
                      obtain ⟨hm6, hbx6⟩ := hbx5.set.2.2 1
                      obtain ⟨hm7, hbx7⟩ := hbx6.set.2.1 ((nm : Int) + 1)
                      have hf2 := hbx5.frozen 2
                      have hf1 := hbx6.frozen 1
                      obtain ⟨ce0, ce1, ce2, -, -, -⟩ := hbx6.cell
                      obtain ⟨W7, hW7⟩ : ∃ W7, (W5.setCell ⟨b15, 2, none⟩ (.int .i64 1)).setCell ⟨b15, 1, none⟩ (.int .i64 ((nm : Int) + 1)) = W7 := ⟨_, rfl⟩
                      have hm8 := (hm5.trans hm6).trans hm7
                      rw [hW7] at hm8 hbx7
                      have hwm : IntKind.i64.wrap ((nm : Int) + 1) = (nm : Int) + 1 := IntWalk.i64_in _ (by omega)
                      obtain ⟨cg0, cg1, cg2, -, -, -⟩ := hbx7.cell
                      by_cases hm2 : 12 < (nm : Int) + 1
                      · have t5 : decide (12 < (nm : Int) + 1) = true := by rw [decide_eq_true_eq]; exact hm2
                        have HE1 : Hid (nextD y nm nd = (y + 1, 1, 1)) := by show _ = _; unfold nextD; rw [if_pos hd2, if_pos hm2]
                        have hwy : IntKind.i64.wrap (y + 1) = y + 1 := IntWalk.i64_in _ (by have := hyr.2 hlt; omega)
                        obtain ⟨hm9, hbx9⟩ := hbx7.set.2.1 1
                        obtain ⟨hm10, hbx10⟩ := hbx9.set.1 (y + 1)
                        have gf1 := hbx7.frozen 1
                        have gf0 := hbx9.frozen 0
                        obtain ⟨ch0, ch1, ch2, -, -, -⟩ := hbx9.cell
                        have HM := Lib.hid ((hm8.trans hm9).trans hm10)
                        have HX1 := Lib.hid hbx10
                        clear hm5 hm6 hm7 hm8 hm9 hm10 hbx5 hbx6 hbx7 hbx9 hbx10 hbox hyr
                        go_wp2_with fail
                        go_roundw
                        case rel => exact ⟨q + 1, by omega, by omega, by rw [HWN.out], by go_num, (NEXT.out _ HM.out (by rw [HE1.out]; exact HX1.out) HH.out).1, (NEXT.out _ HM.out (by rw [HE1.out]; exact HX1.out) HH.out).2⟩
                        case measure => simp [intOf]; omega
                      · have t5 : decide (12 < (nm : Int) + 1) = false := by rw [decide_eq_false_iff_not]; exact hm2
                        have HE1 : Hid (nextD y nm nd = (y, (nm : Int) + 1, 1)) := by show _ = _; unfold nextD; rw [if_pos hd2, if_neg hm2]
                        have HM := Lib.hid hm8
                        have HX1 := Lib.hid hbx7
                        clear hm5 hm6 hm7 hm8 hbx5 hbx6 hbx7 hbox hyr
                        go_wp2_with fail
                        go_roundw
                        case rel => exact ⟨q + 1, by omega, by omega, by rw [HWN.out], by go_num, (NEXT.out _ HM.out (by rw [HE1.out]; exact HX1.out) HH.out).1, (NEXT.out _ HM.out (by rw [HE1.out]; exact HX1.out) HH.out).2⟩
                        case measure => simp [intOf]; omega
                    · have t4 : decide (dim y nm < (nd : Int) + 1) = false := by rw [decide_eq_false_iff_not]; exact hd2
                      have t5 : decide (12 < (nm : Int)) = false := by rw [decide_eq_false_iff_not]; omega
                      have HE1 : Hid (nextD y nm nd = (y, (nm : Int), (nd : Int) + 1)) := by show _ = _; unfold nextD; rw [if_neg hd2]
                      have HM := Lib.hid hm5
                      have HX1 := Lib.hid hbx5
                      clear hm5 hbx5 hbox hyr
                      go_wp2_with fail
                      go_roundw
                      case rel => exact ⟨q + 1, by omega, by omega, by rw [HWN.out], by go_num, (NEXT.out _ HM.out (by rw [HE1.out]; exact HX1.out) HH.out).1, (NEXT.out _ HM.out (by rw [HE1.out]; exact HX1.out) HH.out).2⟩
                      case measure => simp [intOf]; omega
        · obtain rfl : q = 2932897 := by omega
          have t2 : decide ((253402300800 : Int) ≤ 253402300799) = false := by decide
          have hr2 : res = none := by have := HE.out; rw [dayS_stop _ (by omega)] at this; exact this.symm
          have HB := Lib.hid hJ.below
          clear hJ
          go_wp2_with fail
          go_ret2
          exact ⟨by rw [HN.out, hr2]; rfl, HB.out⟩
end Go.Proofs.YtkahakhhdiffcaaGreatDoor

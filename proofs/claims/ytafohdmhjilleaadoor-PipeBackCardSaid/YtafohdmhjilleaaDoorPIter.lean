/- Ranging over the steps of a translation: what is taken of them. -/
import Derived.Test.YtafohdmhjilleaaDoorPSteps
import Derived.Test.YtafohdmhjilleaaDoorPKp
import Derived.Test.YtafohdmhjilleaaDoorRound
import Derived.Test.YtafohdmhjilleaaDoorBuilder
namespace Go.Proofs.YtafohdmhjilleaaDoor
set_option linter.unusedVariables false
set_option linter.unusedSimpArgs false
open Go.RowKit Go.Shelf

/-- What is taken of the steps: up to n bytes (all for n below 0), or the first line. -/
def tkL (n : Int) (line : Bool) : Nat → List (UInt8 × Nat) → List (UInt8 × Nat)
  | _, [] => []
  | k, p :: r => if 0 ≤ n ∧ n ≤ k then [] else p :: (if line = true ∧ p.1 = 10 then [] else tkL n line (k + 1) r)
theorem tkL_cons (n : Int) (line : Bool) (k : Nat) (p : UInt8 × Nat) (r : List (UInt8 × Nat)) : tkL n line k (p :: r) = if 0 ≤ n ∧ n ≤ k then [] else p :: (if line = true ∧ p.1 = 10 then [] else tkL n line (k + 1) r) := rfl
theorem tkL_all {n : Int} (hn : n < 0) : ∀ (l : List (UInt8 × Nat)) (k : Nat), tkL n false k l = l := by
  intro l
  induction l with
  | nil => intro k; rfl
  | cons p r ih => intro k; rw [tkL_cons, if_neg (by omega), if_neg (by simp), ih]
theorem tkL_take {n : Int} (hn : 0 ≤ n) : ∀ (l : List (UInt8 × Nat)) (k : Nat), tkL n false k l = l.take (n.toNat - k) := by
  intro l
  induction l with
  | nil => intro k; simp [tkL]
  | cons p r ih =>
    intro k
    rw [tkL_cons]
    by_cases h : n ≤ k
    · rw [if_pos ⟨hn, h⟩, show n.toNat - k = 0 by omega]; rfl
    · rw [if_neg (by omega), if_neg (by simp), ih, show n.toNat - k = (n.toNat - (k + 1)) + 1 by omega]; rfl
theorem tkL_line {n : Int} (hn : n < 0) : ∀ (l : List (UInt8 × Nat)) (k : Nat), tkL n true k l = lineL l := by
  intro l
  induction l with
  | nil => intro k; rfl
  | cons p r ih =>
    intro k
    rw [tkL_cons, if_neg (by omega)]
    unfold lineL
    by_cases h : p.1 = 10
    · rw [if_pos ⟨rfl, h⟩, if_pos h]
    · rw [if_neg (by simp [h]), if_neg h, ih]
/-- All of pre is taken, and what follows is looked at. -/
def Taken (n : Int) (line : Bool) (pre : List (UInt8 × Nat)) : Prop := ∀ rest, tkL n line 0 (pre ++ rest) = pre ++ tkL n line pre.length rest
/-- It ends within pre: out is taken. -/
def Ended (n : Int) (line : Bool) (pre out : List (UInt8 × Nat)) : Prop := ∀ rest, tkL n line 0 (pre ++ rest) = out
theorem taken_nil (n : Int) (line : Bool) : Taken n line [] := fun rest => by simp
theorem ended_full {n : Int} {line : Bool} {pre : List (UInt8 × Nat)} (h : Taken n line pre) (h0 : 0 ≤ n) (h1 : n ≤ pre.length) (x : UInt8 × Nat) : Ended n line (pre ++ [x]) pre := fun rest => by
  rw [List.append_assoc, h, List.singleton_append, tkL_cons, if_pos ⟨h0, h1⟩, List.append_nil]
theorem ended_line {n : Int} {pre : List (UInt8 × Nat)} (h : Taken n true pre) (h0 : ¬ (0 ≤ n ∧ n ≤ pre.length)) {x : UInt8 × Nat} (hx : x.1 = 10) : Ended n true (pre ++ [x]) (pre ++ [x]) := fun rest => by
  rw [List.append_assoc, h, List.singleton_append, tkL_cons, if_neg h0, if_pos ⟨rfl, hx⟩]
theorem taken_on {n : Int} {line : Bool} {pre : List (UInt8 × Nat)} (h : Taken n line pre) (h0 : ¬ (0 ≤ n ∧ n ≤ pre.length)) {x : UInt8 × Nat} (hx : ¬ (line = true ∧ x.1 = 10)) : Taken n line (pre ++ [x]) := fun rest => by
  rw [List.append_assoc, h, List.singleton_append, tkL_cons, if_neg h0, if_neg hx]
  simp
theorem taken_end {n : Int} {line : Bool} {l : List (UInt8 × Nat)} (h : Taken n line l) : tkL n line 0 l = l := by
  have := h []
  simpa [tkL] using this
theorem ended_end {n : Int} {line : Bool} {l pre out : List (UInt8 × Nat)} (h : Ended n line pre out) (hp : pre <+: l) : tkL n line 0 l = out := by
  obtain ⟨t, rfl⟩ := hp
  exact h t
theorem bytesL_snoc (l : List (UInt8 × Nat)) (x : UInt8 × Nat) : bytesL (l ++ [x]) = bytesL l ++ [x.1] := by simp [bytesL]
theorem sumN_snoc (l : List (UInt8 × Nat)) (x : UInt8 × Nat) : sumN (l ++ [x]) = sumN l + x.2 := by simp [sumN]
theorem sumN_prefix {pre l : List (UInt8 × Nat)} (h : pre <+: l) : sumN pre ≤ sumN l := by
  obtain ⟨t, rfl⟩ := h; rw [sumN_append]; omega
theorem tkL_prefix (n : Int) (line : Bool) : ∀ (l : List (UInt8 × Nat)) (k : Nat), tkL n line k l <+: l := by
  intro l
  induction l with
  | nil => intro k; exact List.prefix_refl _
  | cons p r ih =>
    intro k
    rw [tkL_cons]
    split
    · exact List.nil_prefix
    · split
      · simp
      · simp [ih]
theorem bytesL_len (l : List (UInt8 × Nat)) : (bytesL l).length = l.length := by simp [bytesL]

/-- The raw bytes of steps, each at most two. -/
def sumC (l : List (UInt8 × Nat)) : Nat := (l.map fun p => clip p.2).sum
theorem sumC_snoc (l : List (UInt8 × Nat)) (x : UInt8 × Nat) : sumC (l ++ [x]) = sumC l + clip x.2 := by simp [sumC]
theorem sumC_le : ∀ l : List (UInt8 × Nat), sumC l ≤ 2 * l.length := by
  intro l
  induction l with
  | nil => simp [sumC]
  | cons p r ih => simp only [sumC, List.map_cons, List.sum_cons, List.length_cons] at ih ⊢; unfold clip at *; omega
theorem clip_le (n : Nat) : clip n ≤ 2 := Nat.min_le_right _ _
theorem sumC_eq : ∀ {l : List (UInt8 × Nat)}, (∀ p ∈ l, p.2 ≤ 2) → sumC l = sumN l := by
  intro l
  induction l with
  | nil => intro _; rfl
  | cons p r ih =>
    intro h
    have h1 := h p (by simp)
    have h2 := ih (fun q hq => h q (by simp [hq]))
    simp only [sumC, sumN, List.map_cons, List.sum_cons] at h2 ⊢
    unfold clip at *
    omega
/-- The worlds that have a property. -/
structure HeldP (P : World → Prop) where
  val : World
  is : P val
theorem wpIn_region_heldP {F : Fence} {n : Nat} {P : Program} {id : Nat} {Q : Exit → Act → World → Prop} {a : Act} {w : World} {ls : List Oper} (P' : World → Prop) (hw0 : P' w.drew) (hro : F.round = none) (hm : P.follows .mixedOrders = true) (hB : Region.lexB .any ls.toArray = true)
    (h : wpQuietIn F n P ls.toArray (fun w' => ∃ x : HeldP P', w' = x.val) (fun a' => ∀ w', (∃ x : HeldP P', w' = x.val) → Q .normal a' w') ls a) : (Code.region id ls.toArray true).wpIn F n P Q a w := by
  simp only [Region.lexB, Bool.and_eq_true] at hB
  refine wpIn_region_any hm (wpAnyIn_of_quiet (C := fun w' => ∃ x : HeldP P', w' = x.val) (Q := fun a' => ∀ w', (∃ x : HeldP P', w' = x.val) → Q .normal a' w') hro (fun _ w' hw' h => h w' hw') _ _ _ _ ⟨⟨w.drew, hw0⟩, rfl⟩ ?_)
  have := wpAnyQIn_lex (F := F) (n := n) (C := fun w' => ∃ x : HeldP P', w' = x.val) (md := .any) hB.1 ls 0 (Array.replicate ls.toArray.size false) a (by simp) (by simpa using hB.2) h
  simpa using this
theorem heldP_call {F : Fence} {r : Nat} {P : Program} {f : FuncId} {args : Array Value} {P' : World → Prop} {x : HeldP P'} {v : Value} (h : CallsIn F r P f args x.val fun e w' => e = .returned v ∧ P' w') : CallsIn F r P f args x.val fun e w'' => e = .returned v ∧ ∃ y : HeldP P', w'' = y.val :=
  h.mono fun _ w' ⟨he, hm⟩ => ⟨he, ⟨w', hm⟩, rfl⟩

theorem steps_any (raw mode : Bs) (closed : Bool) (w : World) :
    Calls Tryd.prog 38 #[.string ⟨raw.toArray⟩, .string ⟨mode.toArray⟩, .bool closed] w fun e w' => e = .returned (.func (.func 51) #[] #[.pointer (some ⟨w.heap.size, 0, none⟩), .pointer (some ⟨w.heap.size + 1, 0, none⟩), .pointer (some ⟨w.heap.size + 1 + 1, 0, none⟩)]) ∧
      w' = ((w.alloc (.cells #[.string ⟨raw.toArray⟩] 9)).alloc (.cells #[.string ⟨mode.toArray⟩] 9)).alloc (.cells #[.bool closed] 4) := by
  go_enter Tryd.func38, Tryd.ntmps38
  go_wp2
  go_ret
  exact ⟨rfl, rfl⟩

theorem steps_stops (b1 b2 b3 : Nat) (raw mode : Bs) (closed : Bool) (hmo : mode = autoM ∨ mode = lfM ∨ mode = crM ∨ mode = crlfM) (hs : raw.length ≤ 1000000) (w : World)
    (l1 : b1 < w.heap.size) (l2 : b2 < w.heap.size) (l3 : b3 < w.heap.size) (h1 : w.cell? ⟨b1, 0, none⟩ = some (.string ⟨raw.toArray⟩)) (h2 : w.cell? ⟨b2, 0, none⟩ = some (.string ⟨mode.toArray⟩)) (h3 : w.cell? ⟨b3, 0, none⟩ = some (.bool closed)) :
    SeqStopsK Fence.wide 2 Tryd.prog 51 #[.pointer (some ⟨b1, 0, none⟩), .pointer (some ⟨b2, 0, none⟩), .pointer (some ⟨b3, 0, none⟩)] encS (K3 b1 b2 b3) (fun ys => ys = stepsL mode closed raw) (fun pre => pre <+: stepsL mode closed raw) raw.length w := fun l J Jx W hW hJ _ hY h0 => by
  refine steps1_in 2 (by omega) l b1 b2 b3 raw mode closed hmo hs J Jx hY W ((hW.cell (p := ⟨b1, 0, none⟩) l1).trans h1) ((hW.cell (p := ⟨b2, 0, none⟩) l2).trans h2) ((hW.cell (p := ⟨b3, 0, none⟩) l3).trans h3) h0
theorem k3_put {b1 b2 b3 : Nat} {w : World} (l1 : b1 < w.heap.size) (l2 : b2 < w.heap.size) (l3 : b3 < w.heap.size) (W : World) (l : Nat) (o o' : Obj) (hl : w.heap.size ≤ l) (h : W.heap[l]? = some o) (_ : o.isCells = false) (_ : o.isWalk = false) : K3 b1 b2 b3 W (W.putObj l o') :=
  ⟨World.putObj_heap_other (by omega), World.putObj_heap_other (by omega), World.putObj_heap_other (by omega)⟩

theorem IsB.own {B b : Nat} {bs : List Value} {W W' : World} {row : Option Nat} (h : IsB B b bs W) (hg : W.grownBy W' row) (hr : ∀ r, row = some r → ∃ o : Obj, W.heap[r]? = some o ∧ o.isCells = false) : IsB B b bs W' := by
  have key : ∀ p, Lib.BuilderAtF 67 5 B b p bs W → Lib.BuilderAtF 67 5 B b p bs W' := by
    intro p h
    have hlt := h.lt
    obtain ⟨hB, v, hbk, hown, hne⟩ := h
    refine ⟨hB, v, (hg.block b hlt (fun e => ?_)).trans hbk, hown.kept hg ?_, hne⟩
    · obtain ⟨o, ho, hc⟩ := hr b e.symm
      rw [hbk] at ho; cases ho; cases hc
    · cases hv : v.ownBlock with
      | none => exact .inl rfl
      | some g =>
        right
        intro e
        obtain ⟨o, ho, hc⟩ := hr g e.symm
        obtain ⟨c, fz, hk⟩ := Lib.ownsRowF_kind hown g hv
        rw [hk] at ho; cases ho; cases hc
  exact h.elim (fun x => .inl (key _ x)) (fun x => .inr (key _ x))
/-- A store into another block than the builder's own leaves it. -/
theorem IsB.set {B b : Nat} {bs : List Value} {W : World} (h : IsB B b bs W) {k i : Nat} (v : Value) {c : Array Value} {t : TypeId} {fz : Nat × Nat} (hk : W.heap[k]? = some (.cells c t fz)) (h1 : t ≠ 67) (h2 : t ≠ 5) : IsB B b bs (W.setCell ⟨k, i, none⟩ v) := by
  have key : ∀ p, Lib.BuilderAtF 67 5 B b p bs W → Lib.BuilderAtF 67 5 B b p bs (W.setCell ⟨k, i, none⟩ v) := by
    intro p h
    obtain ⟨hB, u, hbk, hown, hne⟩ := h
    have hg : W.grownBy (W.setCell ⟨k, i, none⟩ v) (some k) := ⟨rfl, rfl, rfl, by simp [World.setCell], fun j _ hj => Below.heap_setCell W ⟨k, i, none⟩ v j (fun e => hj (by rw [e]))⟩
    refine ⟨hB, u, (Below.heap_setCell W ⟨k, i, none⟩ v b (fun e => ?_)).trans hbk, hown.kept hg ?_, hne⟩
    · simp at e; subst e; rw [hbk] at hk; cases hk; exact h1 rfl
    · cases hv : u.ownBlock with
      | none => exact .inl rfl
      | some g =>
        right
        intro e
        obtain ⟨c', fz', hk'⟩ := Lib.ownsRowF_kind hown g hv
        rw [Option.some.inj e, hk] at hk'; cases hk'; exact h2 rfl
  exact h.elim (fun x => .inl (key _ x)) (fun x => .inr (key _ x))

abbrev Ext := List (Nat × Array Value × TypeId)
structure EOk (at_ : Nat) (E : Ext) : Prop where
  byte : ∀ e ∈ E, e.2.2 ≠ 5
  build : ∀ e ∈ E, e.2.2 ≠ 67
  other : ∀ e ∈ E, e.1 ≠ at_
/-- What lies in memory while steps are gathered: the builder, the count, and the boxes E. -/
structure Gath (n₀ B at_ : Nat) (E : Ext) (w0 : World) (bs : Bs) (k : Nat) (W : World) : Prop where
  isb : IsB B B (Lib.byteCells bs) W
  cnt : W.heap[at_]? = some (.cells #[.int .i64 (k : Int)] 3 (0, 0))
  ext : ∀ e ∈ E, W.heap[e.1]? = some (.cells e.2.1 e.2.2 (0, 0))
  below : Below n₀ w0 W
section
variable {n₀ B at_ k : Nat} {E : Ext} {w0 W W1 : World} {bs bs' : Bs}
theorem Gath.cell (h : Gath n₀ B at_ E w0 bs k W) : W.cell? ⟨at_, 0, none⟩ = some (.int .i64 (k : Int)) ∧ W.frozen? ⟨at_, 0, none⟩ = false := by
  refine ⟨?_, ?_⟩
  · simp only [World.cell?, h.cnt]; rfl
  · simp [World.frozen?, h.cnt]
theorem Gath.extcell (h : Gath n₀ B at_ E w0 bs k W) {b : Nat} {v : Value} {t : TypeId} (he : (b, #[v], t) ∈ E) : W.cell? ⟨b, 0, none⟩ = some v := by
  have := h.ext _ he
  simp only [World.cell?, this]; rfl
theorem Gath.grown {row : Option Nat} (h : Gath n₀ B at_ E w0 bs k W) (hn : n₀ ≤ w0.heap.size) {C : Nat} (hC : n₀ ≤ C) (hg : W.grownBy W1 row) (hr : ∀ r, row = some r → C ≤ r ∧ ∃ o : Obj, W.heap[r]? = some o ∧ o.isCells = false) : Gath n₀ B at_ E w0 bs k W1 := by
  have key : ∀ {j : Nat} {c : Array Value} {t : TypeId} {fz : Nat × Nat}, W.heap[j]? = some (.cells c t fz) → W1.heap[j]? = some (.cells c t fz) := fun {j c t fz} hj => by
    refine (hg.block j (Array.getElem?_eq_some_iff.1 hj).1 (fun e => ?_)).trans hj
    obtain ⟨_, o, ho, hc⟩ := hr j e.symm
    rw [hj] at ho; cases ho; cases hc
  exact ⟨h.isb.own hg (fun r e => (hr r e).2), key h.cnt, fun e he => key (h.ext e he), h.below.grown hg (Nat.le_trans hn h.below.size) (fun r e => Nat.le_trans hC (hr r e).1)⟩
theorem keepsOthers_of_kept {e : TypeId} {b : Nat} {w w' : World} (h : Lib.OthersKept e (some b) w w') (hs : w.heap.size ≤ w'.heap.size) {c : Array Value} {t : TypeId} {fz : Nat × Nat} (hb : w.heap[b]? = some (.cells c t fz)) : KeepsOthers w w' :=
  ⟨hs, fun k o hk ho => h k o hk (fun e => by cases e; rw [hb] at hk; cases hk; cases ho) (fun c fz e => by subst e; cases ho)⟩
theorem IsB.block {b : Nat} {bs : List Value} (h : IsB B b bs W) : ∃ c, W.heap[b]? = some (.cells c 67 (0, 0)) := by
  rcases h with ⟨_, v, hb, _⟩ | ⟨_, v, hb, _⟩ <;> exact ⟨_, hb⟩
theorem Gath.put (h : Gath n₀ B at_ E w0 bs k W) (hE : EOk at_ E) (hn : n₀ ≤ B) (ha : n₀ ≤ at_) (h1 : IsB B B (Lib.byteCells bs') W1) (h2 : Below B W W1) (h3 : Lib.OthersKept 5 (some B) W W1) :
    Gath n₀ B at_ E w0 bs' k W1 ∧ KeepsOthers W W1 ∧ (∀ e ∈ E, W1.heap[e.1]? = W.heap[e.1]?) := by
  obtain ⟨cB, hB⟩ := h.isb.block
  have key : ∀ {j : Nat} {c : Array Value} {t : TypeId}, W.heap[j]? = some (.cells c t (0, 0)) → t ≠ 5 → t ≠ 67 → W1.heap[j]? = some (.cells c t (0, 0)) := fun {j c t} hj t1 t2 => by
    refine h3 j _ hj (fun e => ?_) (fun c fz e => ?_)
    · cases e; rw [hB] at hj; cases hj; exact t2 rfl
    · cases e; exact t1 rfl
  refine ⟨⟨h1, key h.cnt (by decide) (by decide), fun e he => key (h.ext e he) (hE.byte e he) (hE.build e he), h.below.trans (h2.mono hn)⟩, keepsOthers_of_kept h3 h2.size hB, fun e he => ?_⟩
  rw [h.ext e he]
  exact key (h.ext e he) (hE.byte e he) (hE.build e he)
theorem Gath.count (h : Gath n₀ B at_ E w0 bs k W) (hE : EOk at_ E) (ha : n₀ ≤ at_) (k' : Nat) :
    Gath n₀ B at_ E w0 bs k' (W.setCell ⟨at_, 0, none⟩ (.int .i64 (k' : Int))) ∧ KeepsOthers W (W.setCell ⟨at_, 0, none⟩ (.int .i64 (k' : Int))) ∧ (∀ e ∈ E, (W.setCell ⟨at_, 0, none⟩ (.int .i64 (k' : Int))).heap[e.1]? = W.heap[e.1]?) := by
  have hk : ∀ e ∈ E, (W.setCell ⟨at_, 0, none⟩ (.int .i64 (k' : Int))).heap[e.1]? = W.heap[e.1]? := fun e he => Below.heap_setCell W ⟨at_, 0, none⟩ _ e.1 (hE.other e he)
  refine ⟨⟨h.isb.set _ h.cnt (by decide) (by decide), ?_, fun e he => (hk e he).trans (h.ext e he), h.below.setCell (p := ⟨at_, 0, none⟩) ha _⟩, KeepsOthers.setCell _ _ _, hk⟩
  have := h.cnt
  simp only [World.setCell, Array.getElem?_modify, this]
  simp
end
theorem gath_own {n₀ B at_ : Nat} {E : Ext} {w0 : World} {C : Nat} (hn : n₀ ≤ w0.heap.size) (hC : n₀ ≤ C) {β : Type} (f : β → Bs) (g : β → Nat) : OwnFrom C (fun (s : β) W => Gath n₀ B at_ E w0 (f s) (g s) W) :=
  fun _ _ _ _ hs hg hr => hs.grown hn hC hg hr
theorem write_gath {n₀ B at_ k : Nat} {E : Ext} {w0 W : World} {bs : Bs} (h : Gath n₀ B at_ E w0 bs k W) (hE : EOk at_ E) (hn : n₀ ≤ B) (ha : n₀ ≤ at_) (hl : bs.length ≤ 1000000000) (c : UInt8) :
    Calls Tryd.prog 39 #[.pointer (some ⟨B, 0, none⟩), .string ⟨#[c]⟩] W fun e w' => e = .returned (.tuple #[.int .i64 1, .nilIface]) ∧ Gath n₀ B at_ E w0 (bs ++ [c]) k w' ∧ KeepsOthers W w' ∧ (∀ e ∈ E, w'.heap[e.1]? = W.heap[e.1]?) := by
  have hlt : B < W.heap.size := by obtain ⟨c, hc⟩ := h.isb.block; exact (Array.getElem?_eq_some_iff.1 hc).1
  refine (WriteString_any B B _ ⟨#[c]⟩ W h.isb ?_ (by omega)).mono ?_
  · rw [byteCells_len]
    show bs.length + 1 ≤ _
    omega
  · rintro e w' ⟨rfl, h1, h2, h3⟩
    refine ⟨rfl, h.put hE hn ha ?_ h2 h3⟩
    have : Lib.byteCells bs ++ Lib.strCells ⟨#[c]⟩ = Lib.byteCells (bs ++ [c]) := by simp [Lib.byteCells, Lib.strCells]
    rw [this] at h1
    exact .inr h1
/-- .. and the loop's own block for deferred calls. -/
def GathD (n₀ B at_ : Nat) (E : Ext) (w0 : World) (bs : Bs) (k D : Nat) (W : World) : Prop := Gath n₀ B at_ E w0 bs k W ∧ W.heap[D]? = some (.deferred (some []))
theorem string_held {n₀ B at_ k D r : Nat} {E : Ext} {w0 : World} {bs : Bs} (hE : EOk at_ E) (hn : n₀ ≤ B) (ha : n₀ ≤ at_)
    {x : HeldP (GathD n₀ B at_ E w0 bs k D)} :
    CallsIn Fence.wide r Tryd.prog 40 #[.pointer (some ⟨B, 0, none⟩)] x.val fun e w'' => e = .returned (.string ⟨bs.toArray⟩) ∧ ∃ y : HeldP (GathD n₀ B at_ E w0 bs k D), w'' = y.val := by
  obtain ⟨W, hG, hD⟩ := x
  obtain ⟨c, hc⟩ := hG.isb.block
  have hlt : B < W.heap.size := (Array.getElem?_eq_some_iff.1 hc).1
  refine heldP_call (x := ⟨W, hG, hD⟩) (callsIn_wide.2 ((Tryd.Builder_String_any_k B B bs W hG.isb (by omega)).mono ?_))
  rintro e w' ⟨rfl, h1, h2, h3⟩
  exact ⟨rfl, (hG.put hE hn ha h1 h2 h3).1, h3 D _ hD (fun e => by cases e; rw [hc] at hD; cases hD) (fun c fz e => by cases e)⟩
theorem k3_of {b1 b2 b3 : Nat} {E : Ext} {W W1 : World} (h : ∀ e ∈ E, W1.heap[e.1]? = W.heap[e.1]?) {c1 c2 c3 : Array Value} {t1 t2 t3 : TypeId} (m1 : (b1, c1, t1) ∈ E) (m2 : (b2, c2, t2) ∈ E) (m3 : (b3, c3, t3) ∈ E) : K3 b1 b2 b3 W W1 := ⟨h _ m1, h _ m2, h _ m3⟩
end Go.Proofs.YtafohdmhjilleaaDoor

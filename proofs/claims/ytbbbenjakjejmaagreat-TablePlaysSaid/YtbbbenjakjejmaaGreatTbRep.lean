/- Tables in memory: which block is whose; what stays. -/
import Derived.Test.YtbbbenjakjejmaaGreatTbPlain
import Derived.Test.YtbbbenjakjejmaaGreatLeaf
import Derived.Test.YtbbbenjakjejmaaGreatHeap
import Derived.Test.YtbbbenjakjejmaaGreatPush1
import Derived.RangeFuncRecord
import Derived.Deep.LoopGhost
import Derived.IntWalk
import Derived.BigQuiet
import Derived.Deep.QuietTactic
namespace Go.Proofs.YtbbbenjakjejmaaGreat
set_option linter.unusedVariables false
set_option linter.unusedSimpArgs false
open Go.RowKit Go.MapKept Go.WideMaps
open Go.Maps (Keyed string_keyed int_keyed)

def sv (b : Bs) : Value := .string ⟨b.toArray⟩
def iv (i : Int) : Value := .int .i64 i
def ptrC (b : Nat) : Value := .pointer (some ⟨b, 0, none⟩)
def ptrO (cb : Nat → Nat) (n : Nat) : Value := .pointer (if n = 0 then none else some ⟨cb n, 0, none⟩)
theorem sv_inj (a b : Bs) (h : sv a = sv b) : a = b := by
  injection h with h
  injection h with h
  simpa using congrArg Array.toList h
theorem iv_inj (a b : Int) (h : iv a = iv b) : a = b := by
  injection h
theorem Skeyed : Keyed Tryz.prog 9 := string_keyed Tryz.underlying9
theorem Ikeyed : Keyed Tryz.prog 3 := int_keyed Tryz.underlying3
theorem skey {s : Bs} (hs : s.length ≤ maxLen) : keyOf Tryz.prog 9 (sv s) = some (.string s) := WideMaps.keyOf_string_mk Tryz.underlying9 (by simpa [ByteArray.size] using hs)
theorem ikey {i : Int} (hi : (Lit.int .i64 i).wf = true) : keyOf Tryz.prog 3 (iv i) = some (.int .i64 i) := Maps.keyOf_int_mk Tryz.underlying3 hi
/-- Whose a block is: (0, 0) the table's; (1, 0), (1, 1), (1, 2) its maps'; (4, n) a command's; (5, n) its imports'. -/
abbrev Own := Nat → Option (Nat × Nat)
/-- But for the blocks with an owner all stays. -/
structure Fr (who : Own) (w w' : World) : Prop where
  os : w'.os = w.os
  tape : w'.tape = w.tape
  output : w'.output = w.output
  size : w.heap.size ≤ w'.heap.size
  block : ∀ j, j < w.heap.size → who j = none → w'.heap[j]? = w.heap[j]?
/-- A step: new blocks have new owners, old ones keep theirs. -/
structure Stp (who who' : Own) (w w' : World) : Prop where
  fr : Fr who w w'
  ext : ∀ j, j < w.heap.size → who' j = who j
theorem Fr.refl (who : Own) (w : World) : Fr who w w := ⟨rfl, rfl, rfl, Nat.le_refl _, fun _ _ _ => rfl⟩
theorem Stp.refl (who : Own) (w : World) : Stp who who w w := ⟨Fr.refl _ _, fun _ _ => rfl⟩
theorem Stp.trans {a b c : Own} {w w1 w2 : World} (h : Stp a b w w1) (k : Stp b c w1 w2) : Stp a c w w2 :=
  ⟨⟨k.fr.os.trans h.fr.os, k.fr.tape.trans h.fr.tape, k.fr.output.trans h.fr.output, Nat.le_trans h.fr.size k.fr.size, fun j hj hn => (k.fr.block j (Nat.lt_of_lt_of_le hj h.fr.size) (by rw [h.ext j hj]; exact hn)).trans (h.fr.block j hj hn)⟩,
   fun j hj => (k.ext j (Nat.lt_of_lt_of_le hj h.fr.size)).trans (h.ext j hj)⟩
theorem Stp.of_below {who : Own} {w w' : World} (h : Below w.heap.size w w') : Stp who who w w' :=
  ⟨⟨h.os, h.tape, h.output, h.size, fun j hj _ => h.block j hj⟩, fun _ _ => rfl⟩
theorem Stp.low {a b : Own} {w w1 w2 : World} (h : Stp a b w w1) (k : Below w1.heap.size w1 w2) : Stp a b w w2 := h.trans (Stp.of_below k)
theorem Stp.below {a b : Own} {w w' : World} {B : Nat} (h : Stp a b w w') (hB : B ≤ w.heap.size) (hlo : ∀ j, a j ≠ none → B ≤ j) : Below B w w' :=
  ⟨h.fr.os, h.fr.tape, h.fr.output, h.fr.size, fun j hj => h.fr.block j (by omega) (by
    cases hc : a j with
    | none => rfl
    | some p => have := hlo j (by rw [hc]; simp); omega)⟩
def Own.set (who : Own) (b : Nat) (t : Nat × Nat) : Own := fun j => if j = b then some t else who j
theorem Own.set_same (who : Own) (b : Nat) (t : Nat × Nat) : who.set b t b = some t := if_pos rfl
theorem Own.set_other {who : Own} {b j : Nat} {t : Nat × Nat} (h : j ≠ b) : who.set b t j = who j := if_neg h
theorem own_set_mono {who : Own} {b : Nat} {t : Nat × Nat} (hb : who b = none) : ∀ j u, who j = some u → who.set b t j = some u := by
  intro j u hj
  rw [Own.set_other]
  · exact hj
  · rintro rfl; rw [hb] at hj; cases hj

/-- A command's block. -/
def CmAt (w : World) (B : Nat) (who : Own) (cb : Nat → Nat) (n : Nat) (c : Cm) : Prop :=
  who (cb n) = some (4, n) ∧ ∃ v, w.heap[cb n]? = some (.cells #[.int .i64 (n : Int), .string ⟨c.name.toArray⟩, .bool c.hid, ptrO cb c.org, v] 63 (0, 0)) ∧
    w.ownsRow B 60 1 v c.imp.length (c.imp.map fun i => ptrC (cb i)) ∧ ∀ g, v.ownBlock = some g → who g = some (5, n)
/-- What number a map's key stands for. -/
def TS.num (S : TS) (i : Int) : Option Nat := if 0 ≤ i ∧ (S.cm i.toNat).isSome = true then some i.toNat else none
/-- A table at block tb, its maps at mn, mh, mk, its commands' blocks cb. -/
structure Tb (w : World) (B tb mn mh mk : Nat) (who : Own) (cb : Nat → Nat) (S : TS) : Prop where
  cel : w.heap[tb]? = some (.cells #[.map (some mn), .map (some mh), .map (some mk), .int .i64 (S.last : Int), .int .i64 (S.epoch : Int)] 46 (0, 0))
  wtb : who tb = some (0, 0)
  wmn : who mn = some (1, 0)
  wmh : who mh = some (1, 1)
  wmk : who mk = some (1, 2)
  names : MapAt Tryz.prog 9 sv w mn (fun k => (S.nm false k).map fun n => ptrC (cb n))
  hidden : MapAt Tryz.prog 9 sv w mh (fun k => (S.nm true k).map fun n => ptrC (cb n))
  numbers : MapAt Tryz.prog 3 iv w mk (fun i => (S.num i).map fun n => ptrC (cb n))
  cmd : ∀ n c, S.cm n = some c → CmAt w B who cb n c
  lo : ∀ j, who j ≠ none → B ≤ j ∧ j < w.heap.size

theorem row_keep {w w' : World} {B n : Nat} {e : TypeId} {v : Value} {xs : List Value} (h : w.ownsRow B e 1 v n xs) (hk : ∀ g, v.ownBlock = some g → w'.heap[g]? = w.heap[g]?) : w'.ownsRow B e 1 v n xs := by
  refine ⟨h.1, ?_⟩
  rcases h.2 with h0 | ⟨g, cap, cur, rfl, hb, hg, rest⟩
  · exact .inl h0
  · exact .inr ⟨g, cap, cur, rfl, hb, (hk g rfl).trans hg, rest⟩
theorem CmAt.keep {w w' : World} {B : Nat} {who who' : Own} {cb : Nat → Nat} {n : Nat} {c : Cm} (h : CmAt w B who cb n c) (hb : w'.heap[cb n]? = w.heap[cb n]?)
    (hr : ∀ j, who j = some (5, n) → w'.heap[j]? = w.heap[j]?) (hw : ∀ j t, who j = some t → who' j = some t) : CmAt w' B who' cb n c := by
  obtain ⟨h1, v, h2, h3, h4⟩ := h
  exact ⟨hw _ _ h1, v, hb.trans h2, row_keep h3 (fun g hg => hr g (h4 g hg)), fun g hg => hw _ _ (h4 g hg)⟩
section
variable {w w' : World} {B tb mn mh mk : Nat} {who who2 who2' : Own} {cb : Nat → Nat} {S : TS}
theorem Tb.keep (h : Tb w B tb mn mh mk who cb S) (hs : w.heap.size ≤ w'.heap.size) (hk : ∀ j, who j ≠ none → w'.heap[j]? = w.heap[j]?) : Tb w' B tb mn mh mk who cb S :=
  ⟨(hk tb (by rw [h.wtb]; simp)).trans h.cel, h.wtb, h.wmn, h.wmh, h.wmk, h.names.congr (hk mn (by rw [h.wmn]; simp)), h.hidden.congr (hk mh (by rw [h.wmh]; simp)), h.numbers.congr (hk mk (by rw [h.wmk]; simp)),
    fun n c hc => (h.cmd n c hc).keep (hk _ (by rw [(h.cmd n c hc).1]; simp)) (fun j hj => hk j (by rw [hj]; simp)) (fun _ _ h => h), fun j hj => ⟨(h.lo j hj).1, Nat.lt_of_lt_of_le (h.lo j hj).2 hs⟩⟩
theorem Tb.low (h : Tb w B tb mn mh mk who cb S) (hb : Below w.heap.size w w') : Tb w' B tb mn mh mk who cb S :=
  h.keep hb.size (fun j hj => hb.block j (h.lo j hj).2)
theorem Tb.lt (h : Tb w B tb mn mh mk who cb S) : tb < w.heap.size := (h.lo tb (by rw [h.wtb]; simp)).2
theorem Tb.base (h : Tb w B tb mn mh mk who cb S) : B ≤ w.heap.size := by have := h.lo tb (by rw [h.wtb]; simp); omega
theorem Tb.none_at (h : Tb w B tb mn mh mk who cb S) {j : Nat} (hj : w.heap.size ≤ j) : who j = none := by
  cases hc : who j with
  | none => rfl
  | some p => have := (h.lo j (by rw [hc]; simp)).2; omega
/-- The map of a kind. -/
def kindB (mn mh : Nat) (hid : Bool) : Nat := if hid then mh else mn
theorem Tb.map (h : Tb w B tb mn mh mk who cb S) (hid : Bool) : MapAt Tryz.prog 9 sv w (kindB mn mh hid) (fun k => (S.nm hid k).map fun n => ptrC (cb n)) := by
  cases hid
  · exact h.names
  · exact h.hidden
theorem Tb.wmap (h : Tb w B tb mn mh mk who cb S) (hid : Bool) : who (kindB mn mh hid) = some (1, if hid then 1 else 0) := by
  cases hid
  · exact h.wmn
  · exact h.wmh
theorem ptrO_some {n : Nat} (h : n ≠ 0) : ptrO cb n = .pointer (some ⟨cb n, 0, none⟩) := by unfold ptrO; rw [if_neg h]
theorem ptrO_none : ptrO cb 0 = .pointer none := rfl
theorem zero_cmd (w : World) : (zeroValue 60).run Tryz.prog w = .ok (.pointer none) w := by kernel_rfl
def ptrM (cb : Nat → Nat) (o : Option Nat) : Value := .pointer (o.map fun n => ⟨cb n, 0, none⟩)
theorem Tb.lookName (h : Tb w B tb mn mh mk who cb S) (hid : Bool) {k : Bs} (hk : k.length ≤ maxLen) :
    (Instr.lookup 43 (.map (some (kindB mn mh hid))) (.string ⟨k.toArray⟩) false).run Tryz.prog w = .ok (ptrM cb (S.nm hid k)) w := by
  have hl := (h.map hid).look Skeyed (t := 43) (et := 60) Tryz.underlying43 (z := .pointer none) (zero_cmd w) (skey hk)
  rw [show sv k = (Value.string ⟨k.toArray⟩) from rfl] at hl
  rw [hl]
  cases S.nm hid k <;> rfl
theorem Tb.lookNum (h : Tb w B tb mn mh mk who cb S) {i : Int} (hi : (Lit.int .i64 i).wf = true) :
    (Instr.lookup 44 (.map (some mk)) (.int .i64 i) false).run Tryz.prog w = .ok (ptrM cb (S.num i)) w := by
  have hl := h.numbers.look Ikeyed (t := 44) (et := 60) Tryz.underlying44 (z := .pointer none) (zero_cmd w) (ikey hi)
  rw [show iv i = (Value.int .i64 i) from rfl] at hl
  rw [hl]
  cases S.num i <;> rfl
/-- What a step changes: one owner's blocks. -/
theorem Tb.ne (h : Tb w B tb mn mh mk who cb S) {a b : Nat} {s t : Nat × Nat} (ha : who a = some s) (hb : who b = some t) (hn : s ≠ t) : a ≠ b := by
  rintro rfl
  rw [ha] at hb
  cases hb
  exact hn rfl
/-- 'delete' out of the map of a kind. -/
theorem Tb.delName {ty : TypeId} (h : Tb w B tb mn mh mk who cb S) (hid : Bool) {k : Bs} (hk : k.length ≤ maxLen) :
    ∃ w', (Builtin.delete_ #[43, 9] ty #[.map (some (kindB mn mh hid)), .string ⟨k.toArray⟩]).run Tryz.prog w = .ok (.tuple #[]) w' ∧
      Tb w' B tb mn mh mk who cb { S with nm := fun h' k' => if h' = hid ∧ k' = k then none else S.nm h' k' } ∧ Stp who who w w' := by
  obtain ⟨w3, hup, ho, hma⟩ := (h.map hid).delete (ty := ty) Skeyed Tryz.underlying43 sv_inj (k := k) (skey hk)
  have hwm := h.wmap hid
  have hkp : ∀ j t, who j = some t → t ≠ (1, if hid then 1 else 0) → w3.heap[j]? = w.heap[j]? := fun j t hj ht => ho.block j (h.ne hj hwm ht)
  have e : (fun k' : Bs => if k' = k then none else (S.nm hid k').map fun n => ptrC (cb n)) = fun k' => (if hid = hid ∧ k' = k then none else S.nm hid k').map fun n => ptrC (cb n) := by
    funext k'
    by_cases e : k' = k
    · simp [e]
    · simp [e]
  have e2 : ∀ h' : Bool, h' ≠ hid → (fun k' : Bs => (if h' = hid ∧ k' = k then none else S.nm h' k').map fun n => ptrC (cb n)) = fun k' => (S.nm h' k').map fun n => ptrC (cb n) := fun h' hne => by
    funext k'
    rw [if_neg (fun x => hne x.1)]
  rw [e] at hma
  refine ⟨w3, hup, ⟨(hkp tb _ h.wtb (by simp)).trans h.cel, h.wtb, h.wmn, h.wmh, h.wmk, ?_, ?_, h.numbers.congr (hkp mk _ h.wmk (by cases hid <;> simp)), fun n c hc => (h.cmd n c hc).keep (hkp _ _ (h.cmd n c hc).1 (by simp)) (fun j hj => hkp j _ hj (by simp)) (fun _ _ h => h), fun j hj => ⟨(h.lo j hj).1, by rw [ho.size]; exact (h.lo j hj).2⟩⟩,
    ⟨⟨ho.os, ho.tape, ho.output, Nat.le_of_eq ho.size.symm, fun j _ hn => ho.block j (by rintro rfl; rw [hwm] at hn; cases hn)⟩, fun _ _ => rfl⟩⟩
  · cases hid
    · exact hma
    · show MapAt _ _ _ _ _ _
      rw [e2 false (by decide)]
      exact h.names.congr (hkp mn _ h.wmn (by simp))
  · cases hid
    · show MapAt _ _ _ _ _ _
      rw [e2 true (by decide)]
      exact h.hidden.congr (hkp mh _ h.wmh (by simp))
    · exact hma
/-- A store into the map of a kind. -/
theorem Tb.putName (h : Tb w B tb mn mh mk who cb S) (hid : Bool) {k : Bs} (hk : k.length ≤ maxLen) (n : Nat) :
    ∃ w', (Instr.mapUpdate 43 (.map (some (kindB mn mh hid))) (.string ⟨k.toArray⟩) (.pointer (some ⟨cb n, 0, none⟩))).run Tryz.prog w = .ok () w' ∧
      Tb w' B tb mn mh mk who cb { S with nm := fun h' k' => if h' = hid ∧ k' = k then some n else S.nm h' k' } ∧ Stp who who w w' := by
  obtain ⟨w3, hup, ho, hma⟩ := (h.map hid).store Skeyed Tryz.underlying43 sv_inj (k := k) (skey hk) (ptrC (cb n))
  have hwm := h.wmap hid
  have hkp : ∀ j t, who j = some t → t ≠ (1, if hid then 1 else 0) → w3.heap[j]? = w.heap[j]? := fun j t hj ht => ho.block j (h.ne hj hwm ht)
  have e : (fun k' : Bs => if k' = k then some (ptrC (cb n)) else (S.nm hid k').map fun n => ptrC (cb n)) = fun k' => (if hid = hid ∧ k' = k then some n else S.nm hid k').map fun n => ptrC (cb n) := by
    funext k'
    by_cases e : k' = k
    · simp [e]
    · simp [e]
  have e2 : ∀ h' : Bool, h' ≠ hid → (fun k' : Bs => (if h' = hid ∧ k' = k then some n else S.nm h' k').map fun n => ptrC (cb n)) = fun k' => (S.nm h' k').map fun n => ptrC (cb n) := fun h' hne => by
    funext k'
    rw [if_neg (fun x => hne x.1)]
  rw [e] at hma
  refine ⟨w3, hup, ⟨(hkp tb _ h.wtb (by simp)).trans h.cel, h.wtb, h.wmn, h.wmh, h.wmk, ?_, ?_, h.numbers.congr (hkp mk _ h.wmk (by cases hid <;> simp)), fun n c hc => (h.cmd n c hc).keep (hkp _ _ (h.cmd n c hc).1 (by simp)) (fun j hj => hkp j _ hj (by simp)) (fun _ _ h => h), fun j hj => ⟨(h.lo j hj).1, by rw [ho.size]; exact (h.lo j hj).2⟩⟩,
    ⟨⟨ho.os, ho.tape, ho.output, Nat.le_of_eq ho.size.symm, fun j _ hn => ho.block j (by rintro rfl; rw [hwm] at hn; cases hn)⟩, fun _ _ => rfl⟩⟩
  · cases hid
    · exact hma
    · show MapAt _ _ _ _ _ _
      rw [e2 false (by decide)]
      exact h.names.congr (hkp mn _ h.wmn (by simp))
  · cases hid
    · show MapAt _ _ _ _ _ _
      rw [e2 true (by decide)]
      exact h.hidden.congr (hkp mh _ h.wmh (by simp))
    · exact hma
/-- 'delete' out of the numbers. -/
theorem Tb.delNum {ty : TypeId} (h : Tb w B tb mn mh mk who cb S) {n : Nat} (hn : (Lit.int .i64 (n : Int)).wf = true) :
    ∃ w', (Builtin.delete_ #[44, 3] ty #[.map (some mk), .int .i64 (n : Int)]).run Tryz.prog w = .ok (.tuple #[]) w' ∧
      Tb w' B tb mn mh mk who cb { S with cm := fun k => if k = n then none else S.cm k } ∧ Stp who who w w' ∧ ∀ j t, who j = some t → t ≠ (1, 2) → w'.heap[j]? = w.heap[j]? := by
  obtain ⟨w3, hup, ho, hma⟩ := h.numbers.delete (ty := ty) Ikeyed Tryz.underlying44 iv_inj (k := (n : Int)) (ikey hn)
  have hkp : ∀ j t, who j = some t → t ≠ (1, 2) → w3.heap[j]? = w.heap[j]? := fun j t hj ht => ho.block j (h.ne hj h.wmk ht)
  have e : (fun i : Int => if i = (n : Int) then none else (S.num i).map fun n => ptrC (cb n)) = fun i => (({ S with cm := fun k => if k = n then none else S.cm k } : TS).num i).map fun n => ptrC (cb n) := by
    funext i
    by_cases e : i = (n : Int)
    · rw [if_pos e]
      subst e
      simp [TS.num]
    · rw [if_neg e]
      unfold TS.num
      by_cases h0 : 0 ≤ i
      · have : i.toNat ≠ n := by omega
        simp [this]
      · simp [h0]
  rw [e] at hma
  refine ⟨w3, hup, ⟨(hkp tb _ h.wtb (by simp)).trans h.cel, h.wtb, h.wmn, h.wmh, h.wmk, h.names.congr (hkp mn _ h.wmn (by simp)), h.hidden.congr (hkp mh _ h.wmh (by simp)), hma, fun k c hc => ?_, fun j hj => ⟨(h.lo j hj).1, by rw [ho.size]; exact (h.lo j hj).2⟩⟩,
    ⟨⟨ho.os, ho.tape, ho.output, Nat.le_of_eq ho.size.symm, fun j _ hn => ho.block j (by rintro rfl; rw [h.wmk] at hn; cases hn)⟩, fun _ _ => rfl⟩, hkp⟩
  have hc' : S.cm k = some c := by
    simp only at hc
    split at hc
    · cases hc
    · exact hc
  exact (h.cmd k c hc').keep (hkp _ _ (h.cmd k c hc').1 (by simp)) (fun j hj => hkp j _ hj (by simp)) (fun _ _ h => h)
/-- One command's blocks change: the rest stays. -/
theorem Tb.setCmd {who' : Own} (h : Tb w B tb mn mh mk who cb S) {n : Nat} {c c' : Cm} (hc : S.cm n = some c) (hk : ∀ j t, who j = some t → t ≠ (4, n) → t ≠ (5, n) → w'.heap[j]? = w.heap[j]?) (hs : w.heap.size ≤ w'.heap.size)
    (hw : ∀ j t, who j = some t → who' j = some t) (hlo : ∀ j, who' j ≠ none → B ≤ j ∧ j < w'.heap.size) (hat : CmAt w' B who' cb n c') :
    Tb w' B tb mn mh mk who' cb { S with cm := fun k => if k = n then some c' else S.cm k } := by
  refine ⟨(hk tb _ h.wtb (by simp) (by simp)).trans h.cel, hw _ _ h.wtb, hw _ _ h.wmn, hw _ _ h.wmh, hw _ _ h.wmk, h.names.congr (hk mn _ h.wmn (by simp) (by simp)), h.hidden.congr (hk mh _ h.wmh (by simp) (by simp)), ?_, fun k d hd => ?_, hlo⟩
  · have e : (fun i : Int => (S.num i).map fun n => ptrC (cb n)) = fun i => (({ S with cm := fun k => if k = n then some c' else S.cm k } : TS).num i).map fun n => ptrC (cb n) := by
      funext i
      unfold TS.num
      by_cases e : i.toNat = n
      · simp only [e, hc, if_pos, Option.isSome_some]
      · simp only [if_neg e]
    have := h.numbers.congr (hk mk _ h.wmk (by simp) (by simp))
    rw [e] at this
    exact this
  · simp only at hd
    by_cases e : k = n
    · rw [if_pos e] at hd
      cases hd
      rw [e]
      exact hat
    · rw [if_neg e] at hd
      have hN := h.cmd k d hd
      exact hN.keep (hk _ _ hN.1 (by simp [e]) (by simp)) (fun j hj => hk j _ hj (by simp) (by simp [e])) hw
/-- The table's own cells. -/
theorem Tb.cells (h : Tb w B tb mn mh mk who cb S) : w.cell? ⟨tb, 0, none⟩ = some (.map (some mn)) ∧ w.cell? ⟨tb, 1, none⟩ = some (.map (some mh)) ∧ w.cell? ⟨tb, 2, none⟩ = some (.map (some mk)) ∧ w.cell? ⟨tb, 3, none⟩ = some (.int .i64 (S.last : Int)) ∧ w.cell? ⟨tb, 4, none⟩ = some (.int .i64 (S.epoch : Int)) ∧ ∀ i, w.frozen? ⟨tb, i, none⟩ = false := by
  have hb := h.cel
  refine ⟨?_, ?_, ?_, ?_, ?_, fun i => by simp [World.frozen?, hb]⟩ <;> simp [World.cell?, hb]
theorem CmAt.cells {n : Nat} {c : Cm} (h : CmAt w B who cb n c) : w.cell? ⟨cb n, 0, none⟩ = some (.int .i64 (n : Int)) ∧ w.cell? ⟨cb n, 1, none⟩ = some (.string ⟨c.name.toArray⟩) ∧ w.cell? ⟨cb n, 2, none⟩ = some (.bool c.hid) ∧ w.cell? ⟨cb n, 3, none⟩ = some (ptrO cb c.org) ∧ (∃ o cap, w.cell? ⟨cb n, 4, none⟩ = some (.slice o c.imp.length cap) ∧ w.ownsRow B 60 1 (.slice o c.imp.length cap) c.imp.length (c.imp.map fun i => ptrC (cb i)) ∧ ∀ g, (Value.slice o c.imp.length cap).ownBlock = some g → who g = some (5, n)) ∧ ∀ i, w.frozen? ⟨cb n, i, none⟩ = false := by
  obtain ⟨h1, v, hb, hr, hg⟩ := h
  have hv : ∃ o cap, v = .slice o c.imp.length cap := by
    rcases hr.2 with ⟨rfl, h0⟩ | ⟨g, cap, cur, rfl, _⟩
    · rw [h0]; exact ⟨_, _, rfl⟩
    · exact ⟨_, _, rfl⟩
  obtain ⟨o, cap, rfl⟩ := hv
  refine ⟨?_, ?_, ?_, ?_, ⟨o, cap, ?_, hr, hg⟩, fun i => by simp [World.frozen?, hb]⟩ <;> simp [World.cell?, hb]
end
end Go.Proofs.YtbbbenjakjejmaaGreat

/- Contracts of the clock's names of months and weekdays, whole and short; laws of appending several elements. -/
import Derived.Test.YtkahakhhdiffcaaGreatDoorCLet1
import Derived.Test.YtkahakhhdiffcaaGreatDoorHeap
import Derived.Test.YtkahakhhdiffcaaGreatDoorPush
import Derived.Test.YtkahakhhdiffcaaGreatDoorShelf
import Derived.OwnWalk
import Derived.Lib.LaidTab
namespace Go.Proofs.YtkahakhhdiffcaaGreatDoor
set_option linter.unusedVariables false
set_option linter.unusedSimpArgs false
open Go.RowKit
section
variable {P : Program} {ops : Array Oper} {rest : List Oper} {o : Oper} {a : Act} {w : World} {Q : Exit → Act → World → Prop}
/-- 'append(s, x1, .., xc)' of c elements of k cells, s nil or the call's own. -/
theorem wpList_pushM (hgd : o.guard = none) (s xo : Operand) (t : TypeId) (ho : o.op = .call { callee := .builtin .append, args := #[s, xo], argTypes := #[t, t] })
    (base : Nat) (e : TypeId) (z : Value) (k bytes c : Nat) (ht : P.underlying t = some (.slice e)) (hi : (P.info? e).map (fun i => (i.zero, i.size, i.bytes)) = some (some z, k, bytes)) (hz : z.cells.size = k) (hk : 0 < k) (hc : 0 < c)
    (v : Value) (n : Nat) (xs : List Value) (hs : a.eval s = v) (hown : w.ownsRow base e k v n xs)
    (ys : List Value) (hyl : ys.length = c * k) (m : Nat) (hm : w.heap.size = m) (hx : a.eval xo = .slice (some ⟨m, 0, none⟩) c c) (hy1 : ys.all (fun u => u.oneCell') = true)
    (hn : n + c ≤ maxLen) (hbytes : (n + c) * bytes ≤ 140737488355328) (hbase : base ≤ w.heap.size)
    (h : ∀ g cap w', base ≤ g → w'.ownsRow base e k (.slice (some ⟨g, 0, none⟩) (n + c) cap) (n + c) (xs ++ ys) → Below base w w' → Lib.OthersKept e none w w' → wpList P ops Q rest (a.put o.dst (.slice (some ⟨g, 0, none⟩) (n + c) cap)) w') :
    wpList P ops Q (o :: rest) a (w.alloc (.cells ys.toArray e)) := by
  subst hm
  obtain ⟨i0, hi0, hz0, hz1, hz2⟩ := info_parts hi
  have hown1 := hown.alloc (.cells ys.toArray e)
  refine wpList_append_own_at _ hgd s xo t ho base e i0 z k bytes ht hi0 hz0 hz1 hz2 hz hk v n xs hs hown1 ⟨w.heap.size, 0, none⟩ c c ys hx hyl (row_new w ys e) (fun u hu => by simpa using List.all_eq_true.1 hy1 u hu) hn hbytes (by simp; omega) ?_
  intro v' w1 hown' hgrow hnil hloc
  have hb : Below base w w1 := (((Below.refl base w).alloc hbase _).grown hgrow (by simp; omega) (fun k hk => (hown.lt k hk).1))
  have hok : Lib.OthersKept e none w w1 := ((Lib.OthersKept.refl e none w).alloc _).grown hgrow (fun g hg => by
    rcases hown1.2 with ⟨rfl, _⟩ | ⟨g', cap, cur, rfl, _, hh, _⟩
    · simp [Value.ownBlock] at hg
    · simp [Value.ownBlock] at hg; subst hg; exact ⟨_, _, hh⟩)
  rcases hown'.2 with ⟨_, h0⟩ | ⟨g, cap, cur, rfl, hg, _⟩
  · omega
  · exact h g cap w1 hg hown' hb hok
end

def monthsS : Bs := [74, 97, 110, 117, 97, 114, 121, 32, 70, 101, 98, 114, 117, 97, 114, 121, 32, 77, 97, 114, 99, 104, 32, 65, 112, 114, 105, 108, 32, 77, 97, 121, 32, 74, 117, 110, 101, 32, 74, 117, 108, 121, 32, 65, 117, 103, 117, 115, 116, 32, 83, 101, 112, 116, 101, 109, 98, 101, 114, 32, 79, 99, 116, 111, 98, 101, 114, 32, 78, 111, 118, 101, 109, 98, 101, 114, 32, 68, 101, 99, 101, 109, 98, 101, 114]
def weekdaysS : Bs := [77, 111, 110, 100, 97, 121, 32, 84, 117, 101, 115, 100, 97, 121, 32, 87, 101, 100, 110, 101, 115, 100, 97, 121, 32, 84, 104, 117, 114, 115, 100, 97, 121, 32, 70, 114, 105, 100, 97, 121, 32, 83, 97, 116, 117, 114, 100, 97, 121, 32, 83, 117, 110, 100, 97, 121]
def monthsL : List Bs := [[74, 97, 110, 117, 97, 114, 121], [70, 101, 98, 114, 117, 97, 114, 121], [77, 97, 114, 99, 104], [65, 112, 114, 105, 108], [77, 97, 121], [74, 117, 110, 101], [74, 117, 108, 121], [65, 117, 103, 117, 115, 116], [83, 101, 112, 116, 101, 109, 98, 101, 114], [79, 99, 116, 111, 98, 101, 114], [78, 111, 118, 101, 109, 98, 101, 114], [68, 101, 99, 101, 109, 98, 101, 114]]
def weekdaysL : List Bs := [[77, 111, 110, 100, 97, 121], [84, 117, 101, 115, 100, 97, 121], [87, 101, 100, 110, 101, 115, 100, 97, 121], [84, 104, 117, 114, 115, 100, 97, 121], [70, 114, 105, 100, 97, 121], [83, 97, 116, 117, 114, 100, 97, 121], [83, 117, 110, 100, 97, 121]]
theorem months_fields : Lib.fields monthsS = monthsL := by decide +kernel
theorem weekdays_fields : Lib.fields weekdaysS = weekdaysL := by decide +kernel
theorem ascii_of (l : Bs) (h : l.all (fun b => decide (b.toNat < 128)) = true) : ∀ (j : Nat) b, l[j]? = some b → b.toNat < 128 := by
  intro j b hj
  have := List.all_eq_true.1 h b (List.mem_of_getElem? hj)
  simpa using this
abbrev SpaceIs (w : World) : Prop := Lib.TabIs Tryz.prog w "strings.asciiSpace" .u8 Lib.asciiSpaceTab
abbrev PowIs (w : World) : Prop := Lib.TabIs Tryz.prog w "internal/strconv.uint64pow10" .u64 Lib.pow10Tab
/-- Block b holds a list of texts. -/
def SRow (w : World) (b : Nat) (l : List Bs) : Prop := ∀ i x, l[i]? = some x → w.cell? ⟨b, i, none⟩ = some (.string ⟨x.toArray⟩)
theorem SRow.below {B b : Nat} {l : List Bs} {w w' : World} (h : SRow w b l) (hb : Below B w w') (hlt : b < B) : SRow w' b l := fun i x hi => (hb.cell (p := ⟨b, i, none⟩) hlt).trans (h i x hi)
theorem srow_new (w : World) (l : List Bs) (t : Nat) : SRow (w.alloc (.cells (l.map fun l => Value.string ⟨l.toArray⟩).toArray t)) w.heap.size l := by
  intro i x hi
  have hb := heap_alloc_new w (.cells (l.map fun l => Value.string ⟨l.toArray⟩).toArray t)
  simp only [World.cell?, hb]
  simp [hi]

set_option maxRecDepth 100000 in
theorem months_any (w : World) (hT : SpaceIs w) :
    Calls Tryz.prog 76 #[] w fun e w' => e = .returned (.slice (some ⟨w.heap.size, 0, none⟩) 12 12) ∧ SRow w' w.heap.size monthsL ∧ Below w.heap.size w w' ∧ w.heap.size < w'.heap.size := by
  have h := Tryz.strings_Fields (⟨monthsS.toArray⟩ : ByteArray) w (by decide) (ascii_of monthsS (by decide +kernel)) hT
  rw [show (⟨monthsS.toArray⟩ : ByteArray).data.toList = monthsS from rfl, months_fields] at h
  have hl : monthsL.length = 12 := by decide
  rw [hl] at h
  have hrow := srow_new w monthsL 9
  have HH := Lib.hid h
  have HR := Lib.hid hrow
  clear h hrow hl
  go_enter Tryz.func76, Tryz.ntmps76
  go_wp2_with (go_at_call 116; refine HH.out.mono ?_; rintro e w1 ⟨rfl, rfl⟩)
  go_ret
  exact ⟨rfl, HR.out, below_alloc1 w _, by simp⟩

set_option maxRecDepth 100000 in
theorem weekdays_any (w : World) (hT : SpaceIs w) :
    Calls Tryz.prog 78 #[] w fun e w' => e = .returned (.slice (some ⟨w.heap.size, 0, none⟩) 7 7) ∧ SRow w' w.heap.size weekdaysL ∧ Below w.heap.size w w' ∧ w.heap.size < w'.heap.size := by
  have h := Tryz.strings_Fields (⟨weekdaysS.toArray⟩ : ByteArray) w (by decide) (ascii_of weekdaysS (by decide +kernel)) hT
  rw [show (⟨weekdaysS.toArray⟩ : ByteArray).data.toList = weekdaysS from rfl, weekdays_fields] at h
  have hl : weekdaysL.length = 7 := by decide
  rw [hl] at h
  have hrow := srow_new w weekdaysL 9
  have HH := Lib.hid h
  have HR := Lib.hid hrow
  clear h hrow hl
  go_enter Tryz.func78, Tryz.ntmps78
  go_wp2_with (go_at_call 116; refine HH.out.mono ?_; rintro e w1 ⟨rfl, rfl⟩)
  go_ret
  exact ⟨rfl, HR.out, below_alloc1 w _, by simp⟩

theorem Tryz.infoStr : (Tryz.prog.info? 9).map (fun i => (i.zero, i.size, i.bytes)) = some (some (.string ByteArray.empty), 1, 16) := by kernel_rfl
def strV (l : Bs) : Value := .string ⟨l.toArray⟩
set_option maxRecDepth 100000 in
set_option maxHeartbeats 1600000 in
theorem short_any (l : List Bs) (b : Nat) (hl : l.length ≤ 100) (h3 : ∀ x ∈ l, 3 ≤ x.length ∧ x.length ≤ 1000) (w : World) (hb : b < w.heap.size) (hr : SRow w b l) :
    Calls Tryz.prog 77 #[.slice (some ⟨b, 0, none⟩) l.length l.length] w fun e w' => ∃ v, e = .returned v ∧ w'.ownsRow w.heap.size 9 1 v l.length (l.map fun x => strV (x.take 3)) ∧ Below w.heap.size w w' := by
  go_enter Tryz.func77, Tryz.ntmps77
  go_wp2_with fail
  go_loopw [3, 5, 8] (fun v3 v5 v8 wr => ∃ k : Nat, k ≤ l.length ∧ v8 = .int .i64 k ∧ wr.ownsRow w.heap.size 9 1 v3 k ((l.take k).map fun x => strV (x.take 3)) ∧ Below w.heap.size w wr) (fun _ _ v8 wr => l.length - (intOf v8).toNat)
  case atStart => exact ⟨0, Nat.zero_le _, by go_num, World.ownsRow_nil _ _ _ _, Below.refl _ _⟩
  case round =>
    obtain ⟨k, hk, rfl, hown, hbw⟩ := hrel
    by_cases hlt : k < l.length
    · have hx := h3 l[k] (List.getElem_mem hlt)
      have hc : wr.cell? ⟨b, k, none⟩ = some (.string ⟨l[k].toArray⟩) := (hbw.cell (p := ⟨b, k, none⟩) hb).trans (hr k _ (List.getElem?_eq_getElem hlt))
      have HT : Hid ((l.take (k + 1)).map (fun x => strV (x.take 3)) = (l.take k).map (fun x => strV (x.take 3)) ++ [strV (l[k].take 3)]) := by
        show _ = _
        rw [List.take_succ_eq_append_getElem hlt, List.map_append]; rfl
      generalize l[k] = x at *
      have hlk : (k : Int) < (l.length : Int) := by omega
      go_wp2_with (at_builtin; refine wpList_push rfl _ _ 28 rfl w.heap.size 9 (.string ByteArray.empty) 16 Tryz.underlying28 Tryz.infoStr rfl _ k _ rfl hown (strV (x.take 3)) _ rfl rfl (by unfold maxLen; omega) (by omega) hbw.size ?_; intro g cap w1 hg hown1 hb1 _)
      go_roundw
      case rel =>
        refine ⟨k + 1, by omega, by go_num, ?_, hbw.trans hb1⟩
        rw [HT.out]
        exact hown1
      case measure => simp [intOf]; omega
    · obtain rfl : k = l.length := by omega
      rw [List.take_length] at hown
      go_wp2_with fail
      go_ret
      exact ⟨_, rfl, hown, hbw⟩
end Go.Proofs.YtkahakhhdiffcaaGreatDoor

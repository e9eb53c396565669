/- How a space of variables lies in memory: its blocks hold what the plain state says. -/
import Derived.Test.YtcaifihdbcjakaaGreatChecked
import Derived.Test.YtcaifihdbcjakaaGreatVMap
import Derived.Test.YtcaifihdbcjakaaGreatVPlain
import Derived.WalkSpells
import Derived.WalkLawsBesides
import Derived.Laws.Rows
namespace Go.Proofs.YtcaifihdbcjakaaGreat
set_option linter.unusedVariables false
set_option linter.unusedSimpArgs false
open Go.RowKit
open Go.Maps (Keyed string_keyed int_keyed)

def pv (o : Option Nat) : Value := .pointer (o.map fun b => ⟨b, 0, none⟩)
def mv (o : Option Nat) : Value := .map o
def sv (b : Bs) : Value := .string ⟨b.toArray⟩
def iv (i : Int) : Value := .int .i64 i
def callsV : Option (Nat × Nat × Nat) → Value
  | none => .slice none 0 0
  | some (b, n, c) => .slice (some ⟨b, 0, none⟩) n c

theorem sv_inj (a b : Bs) (h : sv a = sv b) : a = b := by
  simp only [sv, Value.string.injEq, ByteArray.mk.injEq] at h
  simpa using congrArg Array.toList h
theorem iv_inj (a b : Int) (h : iv a = iv b) : a = b := by simpa [iv] using h

abbrev SMap (w : World) (b : Nat) (g : Bs → Option Value) : Prop := MapAt Tryz.prog 9 sv w b g
abbrev IMap (w : World) (b : Nat) (g : Int → Option Value) : Prop := MapAt Tryz.prog 3 iv w b g

def BlkAt (w : World) (b : Nat) : Blk → Prop
  | .cell k v e p => ∃ n, w.heap[b]? = some (.cells #[iv k, sv v, mv e, pv p, iv n] 78 (0, 0))
  | .emap f => SMap w b fun k => (f k).map fun c => pv (some c)
  | .name c l => w.heap[b]? = some (.cells #[pv (some c), .bool l] 69 (0, 0))
  | .nmap f => SMap w b fun k => (f k).map fun c => pv (some c)
  | .smap f => IMap w b fun i => (f i).map fun m => mv (some m)
  | .rmap f => SMap w b fun k => (f k).map iv
  | .row l c => ∃ cur : Array Value, w.heap[b]? = some (.cells cur 3 (0, 0)) ∧ cur.size = c ∧ cur.toList.take l.length = l.map iv
  | .space sm cs rm => ∃ n, w.heap[b]? = some (.cells #[mv (some sm), callsV cs, mv (some rm), iv n] 51 (0, 0))

theorem BlkAt.congr {w w' : World} {b : Nat} {k : Blk} (h : BlkAt w b k) (hb : w'.heap[b]? = w.heap[b]?) : BlkAt w' b k := by
  cases k with
  | cell k v e p => obtain ⟨n, h⟩ := h; exact ⟨n, hb.trans h⟩
  | emap f => exact MapAt.congr h hb
  | name c l => exact hb.trans h
  | nmap f => exact MapAt.congr h hb
  | smap f => exact MapAt.congr h hb
  | rmap f => exact MapAt.congr h hb
  | row l c => obtain ⟨cur, h1, h2⟩ := h; exact ⟨cur, hb.trans h1, h2⟩
  | space sm cs rm => obtain ⟨n, h⟩ := h; exact ⟨n, hb.trans h⟩
theorem BlkAt.lt {w : World} {b : Nat} {k : Blk} (h : BlkAt w b k) : b < w.heap.size := by
  have aux : ∀ o, w.heap[b]? = some o → b < w.heap.size := fun o h => (Array.getElem?_eq_some_iff.1 h).1
  cases k with
  | cell k v e p => obtain ⟨n, h⟩ := h; exact aux _ h
  | emap f => exact MapAt.lt h
  | name c l => exact aux _ h
  | nmap f => exact MapAt.lt h
  | smap f => exact MapAt.lt h
  | rmap f => exact MapAt.lt h
  | row l c => obtain ⟨cur, h1, _⟩ := h; exact aux _ h1
  | space sm cs rm => obtain ⟨n, h⟩ := h; exact aux _ h

/-- All blocks of the state lie from B on and hold what it says. -/
def Rep (B : Nat) (w : World) (S : St) : Prop := ∀ b k, S b = some k → B ≤ b ∧ BlkAt w b k

/-- From (S, w) to (S', w'): blocks that are not of the state stay. -/
structure Goes (B : Nat) (S : St) (w : World) (S' : St) (w' : World) : Prop where
  below : Below B w w'
  rep : Rep B w' S'
  keep : ∀ b, b < w.heap.size → S b = none → w'.heap[b]? = w.heap[b]?
  dom : ∀ b, b < w.heap.size → S b = none → S' b = none

section
variable {B : Nat} {w w' : World} {S S' : St}

theorem Rep.free (h : Rep B w S) {b : Nat} (hb : w.heap.size ≤ b) : S b = none := by
  cases hk : S b with
  | none => rfl
  | some k => have := (h b k hk).2.lt; omega
theorem Rep.goes (h : Rep B w S) : Goes B S w S w := ⟨Below.refl _ _, h, fun _ _ _ => rfl, fun _ _ h => h⟩
theorem Goes.trans {S'' : St} {w'' : World} (h : Goes B S w S' w') (k : Goes B S' w' S'' w'') : Goes B S w S'' w'' :=
  ⟨h.below.trans k.below, k.rep, fun b hb hn => (k.keep b (Nat.lt_of_lt_of_le hb h.below.size) (h.dom b hb hn)).trans (h.keep b hb hn), fun b hb hn => k.dom b (Nat.lt_of_lt_of_le hb h.below.size) (h.dom b hb hn)⟩

/-- A new block. -/
theorem Goes.new (h : Goes B S w S' w') (hB : B ≤ w.heap.size) (o : Obj) (k : Blk) (hk : BlkAt (w'.alloc o) w'.heap.size k) : Goes B S w (S'.set w'.heap.size k) (w'.alloc o) := by
  have hs := h.below.size
  refine ⟨h.below.alloc (Nat.le_trans hB hs) o, ?_, ?_, ?_⟩
  · intro b kb hb
    simp only [St.set] at hb
    split at hb
    · rename_i e; subst e; cases hb; exact ⟨by omega, hk⟩
    · obtain ⟨h1, h2⟩ := h.rep b kb hb
      exact ⟨h1, h2.congr ((MapKept.heap_alloc w' o).2 b h2.lt)⟩
  · intro b hb hn
    exact ((MapKept.heap_alloc w' o).2 b (by omega)).trans (h.keep b hb hn)
  · intro b hb hn
    simp only [St.set]
    rw [if_neg (by omega)]
    exact h.dom b hb hn
/-- A block of the state is written. -/
theorem Goes.write {w'' : World} (h : Goes B S w S' w') {b : Nat} {k0 k : Blk} (hb : S' b = some k0) (ho : Only b w' w'') (hk : BlkAt w'' b k) : Goes B S w (S'.set b k) w'' := by
  obtain ⟨hB, h0⟩ := h.rep b k0 hb
  refine ⟨h.below.trans (ho.below hB), ?_, ?_, ?_⟩
  · intro b' kb hb'
    simp only [St.set] at hb'
    split at hb'
    · rename_i e; subst e; cases hb'; exact ⟨hB, hk⟩
    · rename_i e
      obtain ⟨h1, h2⟩ := h.rep b' kb hb'
      exact ⟨h1, h2.congr (ho.block b' e)⟩
  · intro b' hb' hn
    have hne : b' ≠ b := by rintro rfl; rw [h.dom b' hb' hn] at hb; cases hb
    exact (ho.block b' hne).trans (h.keep b' hb' hn)
  · intro b' hb' hn
    have hne : b' ≠ b := by rintro rfl; rw [h.dom b' hb' hn] at hb; cases hb
    simp only [St.set]
    rw [if_neg hne]
    exact h.dom b' hb' hn
theorem Goes.drew (h : Goes B S w S' w') : Goes B S w S' w'.drew := ⟨h.below.drew, fun b k hb => ⟨(h.rep b k hb).1, (h.rep b k hb).2.congr rfl⟩, h.keep, h.dom⟩

theorem only_setCell (w : World) (b i : Nat) (v : Value) : Only b w (w.setCell ⟨b, i, none⟩ v) :=
  ⟨rfl, rfl, rfl, World.size_setCell _ _ _, fun k hk => Below.heap_setCell w ⟨b, i, none⟩ v k hk⟩

/-- What the cells of a variable are. -/
theorem Rep.cell (h : Rep B w S) {c : Nat} {k : Int} {v : Bs} {e p : Option Nat} (hc : S c = some (.cell k v e p)) :
    w.cell? ⟨c, 0, none⟩ = some (.int .i64 k) ∧ w.cell? ⟨c, 1, none⟩ = some (.string ⟨v.toArray⟩) ∧ w.cell? ⟨c, 2, none⟩ = some (.map e) ∧ w.cell? ⟨c, 3, none⟩ = some (.pointer (p.map fun b => ⟨b, 0, none⟩)) ∧ (∃ n, w.cell? ⟨c, 4, none⟩ = some (.int .i64 n)) ∧ ∀ i, w.frozen? ⟨c, i, none⟩ = false := by
  obtain ⟨_, n, hb⟩ := h c _ hc
  refine ⟨?_, ?_, ?_, ?_, ⟨n, ?_⟩, fun i => ?_⟩
  · simp only [World.cell?, hb]; rfl
  · simp only [World.cell?, hb]; rfl
  · simp only [World.cell?, hb]; rfl
  · simp only [World.cell?, hb]; rfl
  · simp only [World.cell?, hb]; rfl
  · simp [World.frozen?, hb]
theorem Rep.name (h : Rep B w S) {n c : Nat} {l : Bool} (hn : S n = some (.name c l)) :
    w.cell? ⟨n, 0, none⟩ = some (.pointer (some ⟨c, 0, none⟩)) ∧ w.cell? ⟨n, 1, none⟩ = some (.bool l) := by
  obtain ⟨_, hb⟩ := h n _ hn
  refine ⟨?_, ?_⟩
  · simp only [World.cell?, show w.heap[n]? = _ from hb]; rfl
  · simp only [World.cell?, show w.heap[n]? = _ from hb]; rfl
theorem Rep.space (h : Rep B w S) {x sm rm : Nat} {cs : Option (Nat × Nat × Nat)} (hx : S x = some (.space sm cs rm)) :
    w.cell? ⟨x, 0, none⟩ = some (.map (some sm)) ∧ w.cell? ⟨x, 1, none⟩ = some (callsV cs) ∧ w.cell? ⟨x, 2, none⟩ = some (.map (some rm)) ∧ (∃ n, w.cell? ⟨x, 3, none⟩ = some (.int .i64 n)) ∧ ∀ i, w.frozen? ⟨x, i, none⟩ = false := by
  obtain ⟨_, n, hb⟩ := h x _ hx
  refine ⟨?_, ?_, ?_, ⟨n, ?_⟩, fun i => ?_⟩
  · simp only [World.cell?, hb]; rfl
  · simp only [World.cell?, hb]; rfl
  · simp only [World.cell?, hb]; rfl
  · simp only [World.cell?, hb]; rfl
  · simp [World.frozen?, hb]

theorem Skeyed : Keyed Tryz.prog 9 := string_keyed Tryz.underlying9
theorem Ikeyed : Keyed Tryz.prog 3 := int_keyed Tryz.underlying3
theorem skey {s : Bs} (hs : s.length ≤ maxLen) : keyOf Tryz.prog 9 (sv s) = some (.string s) := WideMaps.keyOf_string_mk Tryz.underlying9 (by simpa [ByteArray.size] using hs)
theorem ikey {i : Int} (hi : (Lit.int .i64 i).wf = true) : keyOf Tryz.prog 3 (iv i) = some (.int .i64 i) := Maps.keyOf_int_mk Tryz.underlying3 hi

theorem zeroNames (w : World) : (zeroValue 46).run Tryz.prog w = .ok (.map none) w := by kernel_rfl
theorem zeroName (w : World) : (zeroValue 65).run Tryz.prog w = .ok (.pointer none) w := by kernel_rfl
theorem zeroCell (w : World) : (zeroValue 67).run Tryz.prog w = .ok (.pointer none) w := by kernel_rfl
theorem zeroInt (w : World) : (zeroValue 3).run Tryz.prog w = .ok (.int .i64 0) w := by kernel_rfl
/-- 'scopes[i]'. -/
theorem Rep.lookScope (h : Rep B w S) {sm : Nat} {g : Int → Option Nat} (hs : S sm = some (.smap g)) {i : Int} (hi : (Lit.int .i64 i).wf = true) :
    (Instr.lookup 47 (.map (some sm)) (.int .i64 i) false).run Tryz.prog w = .ok (.map (g i)) w := by
  have h1 := MapAt.look (h sm _ hs).2 Ikeyed (t := 47) (et := 46) Tryz.underlying47 (z := .map none) (zeroNames w) (ikey hi)
  rw [show (Value.int IntKind.i64 i) = iv i from rfl, h1]
  cases g i <;> rfl
/-- 'scopes[i][w]'. -/
theorem Rep.lookName (h : Rep B w S) {m : Nat} {f : Bs → Option Nat} (hm : S m = some (.nmap f)) {s : Bs} (hs : s.length ≤ maxLen) :
    (Instr.lookup 46 (.map (some m)) (.string ⟨s.toArray⟩) false).run Tryz.prog w = .ok (.pointer ((f s).map fun b => ⟨b, 0, none⟩)) w := by
  have h1 := MapAt.look (h m _ hm).2 Skeyed (t := 46) (et := 65) Tryz.underlying46 (z := .pointer none) (zeroName w) (skey hs)
  rw [show (Value.string ⟨s.toArray⟩) = sv s from rfl, h1]
  cases f s <;> rfl
/-- 'elements[i]'. -/
theorem Rep.lookEl (h : Rep B w S) {m : Nat} {f : Bs → Option Nat} (hm : S m = some (.emap f)) {s : Bs} (hs : s.length ≤ maxLen) :
    (Instr.lookup 76 (.map (some m)) (.string ⟨s.toArray⟩) false).run Tryz.prog w = .ok (.pointer ((f s).map fun b => ⟨b, 0, none⟩)) w := by
  have h1 := MapAt.look (h m _ hm).2 Skeyed (t := 76) (et := 67) Tryz.underlying76 (z := .pointer none) (zeroCell w) (skey hs)
  rw [show (Value.string ⟨s.toArray⟩) = sv s from rfl, h1]
  cases f s <;> rfl
end
end Go.Proofs.YtcaifihdbcjakaaGreat

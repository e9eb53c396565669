/- 'own' of a space of variables: a name, made if it is not there. -/
import Derived.Test.YtcaifihdbcjakaaGreatVRead2
import Derived.OwnWalk
namespace Go.Proofs.YtcaifihdbcjakaaGreat
set_option linter.unusedVariables false
set_option linter.unusedSimpArgs false
open Go.RowKit
variable {N : Nat}
open Go.Maps (Keyed)

/-- 'm[k] = v' AT THE OPERATION. -/
theorem wpList_store {P : Program} {ops : Array Oper} {rest : List Oper} {o : Oper} {a : Act} {w : World} {Q : Exit → Act → World → Prop} {kt et t : TypeId} {ι : Type} [DecidableEq ι] {enc : ι → Value} {b : Nat} {g : ι → Option Value}
    (hg : o.guard = none) (m x v : Operand) (hop : o.op = .mapUpdate t m x v) (K : Keyed P kt) (ht : P.underlying t = some (.map kt et)) (inj : ∀ a b : ι, enc a = enc b → a = b)
    (hown : MapAt P kt enc w b g) (k : ι) {l : Lit} (hk : keyOf P kt (enc k) = some l) (val : Value) (hm : a.eval m = .map (some b)) (hx : a.eval x = enc k) (hv : a.eval v = val)
    (hK : ∀ w', Only b w w' → MapAt P kt enc w' b (fun k' => if k' = k then some val else g k') → wpList P ops Q rest (a.put o.dst undef) w') : wpList P ops Q (o :: rest) a w := by
  refine wpList_plain hg fun K' hK' => ?_
  obtain ⟨w', hrun, r1, r2⟩ := hown.store K ht inj hk val
  unfold Oper.wp
  simp [execOp, hop, hm, hx, hv, hrun, Result.andThen]
  exact hK' _ _ (hK w' r1 r2)

def newCellO : Obj := .cells #[.int .i64 0, .string ⟨#[]⟩, .map none, .pointer none, .int .i64 0] 78
def newNameO (c : Nat) (l : Bool) : Obj := .cells #[.pointer (some ⟨c, 0, none⟩), .bool l] 69

/-- The state with a new name. -/
def ownS (S : St) (m b : Nat) (f : Bs → Option Nat) (word : Bs) : St := ((S.set b (.cell 0 [] none none)).set (b + 1) (.name b false)).set m (.nmap fun k => if k = word then some (b + 1) else f k)

theorem WF.ownS {S : St} (h : WF S) {m b : Nat} {f : Bs → Option Nat} (word : Bs) (hb : S b = none) (hb1 : S (b + 1) = none) (hm : S m = some (.nmap f)) : WF (ownS S m b f word) := by
  have h1 := h.newCell hb
  have h2 := h1.newName (n := b + 1) (c := b) (l := false) (k := 0) (v := []) (e := none) (p := none) (by simp [St.set, hb1]) (by simp [St.set])
  exact h2.named (n0 := b + 1) (c0 := b) (l0 := false) word (by simp only [St.set]; rw [if_neg (by rintro rfl; rw [hb1] at hm; cases hm), if_neg (by rintro rfl; rw [hb] at hm; cases hm)]; exact hm) (by simp [St.set])

set_option maxRecDepth 100000 in
set_option maxHeartbeats 1600000 in
theorem own_any {B : Nat} {S : St} {w : World} (hB : B ≤ w.heap.size) (h : Rep B w S) {x sm m : Nat} {g : Int → Option Nat} {f : Bs → Option Nat} (hp : Sp N S x sm g) {i : Int} (hi : (Lit.int .i64 i).wf = true) (hg : g i = some m) (hm : S m = some (.nmap f)) {word : Bs} (hw : word.length ≤ maxLen) :
    Calls Tryz.prog 67 #[.pointer (some ⟨x, 0, none⟩), .int .i64 i, .string ⟨word.toArray⟩] w fun en w' => ∃ n S', en = .returned (.pointer (some ⟨n, 0, none⟩)) ∧ Goes B S w S' w' ∧ ((f word = some n ∧ S' = S ∧ w' = w) ∨ (f word = none ∧ n = w.heap.size + 1 ∧ S' = ownS S m w.heap.size f word)) := by
  obtain ⟨cs, rm, r, hx, _⟩ := hp.space
  obtain ⟨x0, _⟩ := h.space hx
  have hl := h.lookScope hp.smap hi
  have hl2 := h.lookName hm hw
  rw [hg] at hl
  cases hf : f word with
  | some n =>
    rw [hf] at hl2
    simp only [Option.map_some] at hl2
    have HG := Lib.hid h.goes
    clear hg
    go_enter Tryz.func67, Tryz.ntmps67
    go_wp2_with fail
    go_ret
    exact ⟨n, S, rfl, HG.out, .inl ⟨rfl, rfl, rfl⟩⟩
  | none =>
    rw [hf] at hl2
    simp only [Option.map_none] at hl2
    have g1 := h.goes.new hB newCellO (.cell 0 [] none none) ⟨0, heap_alloc_new _ _⟩
    have g2 := g1.new hB (newNameO w.heap.size false) (.name w.heap.size false) (heap_alloc_new _ _)
    rw [show (w.alloc newCellO).heap.size = w.heap.size + 1 from by simp] at g2
    have hb0 : S w.heap.size = none := h.free (Nat.le_refl _)
    have hb1 : S (w.heap.size + 1) = none := h.free (by omega)
    have hms : ((S.set w.heap.size (.cell 0 [] none none)).set (w.heap.size + 1) (.name w.heap.size false)) m = some (.nmap f) := by
      simp only [St.set]; rw [if_neg (by rintro rfl; rw [hb1] at hm; cases hm), if_neg (by rintro rfl; rw [hb0] at hm; cases hm)]; exact hm
    have hss : ((S.set w.heap.size (.cell 0 [] none none)).set (w.heap.size + 1) (.name w.heap.size false)) sm = some (.smap g) := by
      have hsm := hp.smap
      simp only [St.set]; rw [if_neg (by rintro rfl; rw [hb1] at hsm; cases hsm), if_neg (by rintro rfl; rw [hb0] at hsm; cases hsm)]; exact hsm
    have hl3 := g2.rep.lookScope hss hi
    rw [hg] at hl3
    have hown := (g2.rep m _ hms).2
    have hx2 : ((w.alloc newCellO).alloc (newNameO w.heap.size false)).cell? ⟨x, 0, none⟩ = some (.map (some sm)) := by
      have hxs : ((S.set w.heap.size (.cell 0 [] none none)).set (w.heap.size + 1) (.name w.heap.size false)) x = some (.space sm cs rm) := by
        simp only [St.set]; rw [if_neg (by rintro rfl; rw [hb1] at hx; cases hx), if_neg (by rintro rfl; rw [hb0] at hx; cases hx)]; exact hx
      exact (g2.rep.space hxs).1
    have HG := Lib.hid g2
    have HM := Lib.hid hms
    simp only [newCellO, newNameO] at hl3 hx2 hown HG
    clear hg g1 g2 hms hss
    go_enter Tryz.func67, Tryz.ntmps67
    go_wp2_with (at_mapUpdate; refine wpList_store rfl _ _ _ rfl Skeyed Tryz.underlying46 sv_inj hown word (skey hw) (.pointer (some ⟨w.heap.size + 1, 0, none⟩)) rfl rfl rfl ?_; intro w' ho hma)
    go_ret
    refine ⟨w.heap.size + 1, ownS S m w.heap.size f word, rfl, HG.out.write HM.out ho ?_, .inr ⟨by first | trivial | rfl, rfl, rfl⟩⟩
    have e : (fun k => (if k = word then some (w.heap.size + 1) else f k).map fun c => pv (some c)) = (fun k' => if k' = word then some (.pointer (some ⟨w.heap.size + 1, 0, none⟩)) else (f k').map fun c => pv (some c)) := by
      funext k; split <;> rfl
    show MapAt _ _ _ _ _ _
    rw [e]
    exact hma
end Go.Proofs.YtcaifihdbcjakaaGreat

/- 'New' of package vars: a sound space. -/
import Derived.Test.YtcaifihdbcjakaaGreatVPop
namespace Go.Proofs.YtcaifihdbcjakaaGreat
set_option linter.unusedVariables false
set_option linter.unusedSimpArgs false
open Go.RowKit

def noS : St := fun _ => none
theorem wf_none : WF noS := by
  constructor <;> (intros; simp [noS] at *)
theorem rep_none (B : Nat) (w : World) : Rep B w noS := fun b k h => by simp [noS] at h

/-- What 'New' gives. -/
def NewRes (w : World) (en : Ending) (w' : World) : Prop :=
  ∃ x sm S g, en = .returned (.pointer (some ⟨x, 0, none⟩)) ∧ Goes w.heap.size noS w S w' ∧ Sp 0 S x sm g ∧ (∃ m, g 0 = some m) ∧ ∀ m w, nmOf S m w = none

set_option maxRecDepth 100000 in
set_option maxHeartbeats 1600000 in
theorem New_any (w : World) : Calls Tryz.prog 7 #[] w fun en w' => NewRes w en w' := by
  have hmk := fun (t : TypeId) (W : World) => run_makeMap (P := Tryz.prog) t W
  have g1 := (rep_none w.heap.size w).goes.new (Nat.le_refl _) (.map #[] 0) (.smap fun _ => none) (mapAt_new _ _ _ _)
  have g2 := g1.new (Nat.le_refl _) (.map #[] 0) (.nmap fun _ => none) (mapAt_new _ _ _ _)
  rw [show (w.alloc (.map #[] 0)).heap.size = w.heap.size + 1 from by simp] at g2
  have hs2 : ((noS.set w.heap.size (.smap fun _ => none)).set (w.heap.size + 1) (.nmap fun _ => none)) w.heap.size = some (.smap fun _ => none) := by simp [St.set]
  have hm2 : ((noS.set w.heap.size (.smap fun _ => none)).set (w.heap.size + 1) (.nmap fun _ => none)) (w.heap.size + 1) = some (.nmap fun _ => none) := by simp [St.set]
  obtain ⟨W3, hrun1, ho1, hma1⟩ := MapAt.store (g2.rep _ _ hs2).2 Ikeyed (t := 47) (et := 46) Tryz.underlying47 iv_inj (ikey (i := 0) (by decide)) (.map (some (w.heap.size + 1)))
  have g3 := g2.write (k := .smap fun i => if i = 0 then some (w.heap.size + 1) else none) hs2 ho1 (by
    show MapAt _ _ _ _ _ _
    rw [show (fun i => (if i = (0 : Int) then some (w.heap.size + 1) else none).map fun m => mv (some m)) = (fun k' => if k' = (0 : Int) then some (.map (some (w.heap.size + 1))) else ((fun (_ : Int) => (none : Option Nat)) k').map fun m => mv (some m)) from by funext k; by_cases hk : k = 0 <;> simp [hk, mv]]
    exact hma1)
  have hsz3 : W3.heap.size = w.heap.size + 2 := by rw [ho1.size]; simp
  have g4 := g3.new (Nat.le_refl _) (.map #[] 0) (.rmap fun _ => none) (mapAt_new _ _ _ _)
  rw [hsz3] at g4
  have hr4 : (((((noS.set w.heap.size (.smap fun _ => none)).set (w.heap.size + 1) (.nmap fun _ => none))).set w.heap.size (.smap fun i => if i = 0 then some (w.heap.size + 1) else none)).set (w.heap.size + 2) (.rmap fun _ => none)) (w.heap.size + 2) = some (.rmap fun _ => none) := by simp [St.set]
  obtain ⟨W5, hrun2, ho2, hma2⟩ := MapAt.store (g4.rep _ _ hr4).2 Skeyed (t := 48) (et := 3) Tryz.underlying48 sv_inj (skey (s := []) (by decide)) (.int .i64 0)
  have g5 := g4.write (k := .rmap fun k => if k = [] then some 0 else none) hr4 ho2 (by
    show MapAt _ _ _ _ _ _
    rw [show (fun k => (if k = ([] : Bs) then some (0 : Int) else none).map iv) = (fun k' => if k' = ([] : Bs) then some (.int .i64 0) else ((fun (_ : Bs) => (none : Option Int)) k').map iv) from by funext k; by_cases hk : k = [] <;> simp [hk, iv]]
    exact hma2)
  have hsz5 : W5.heap.size = w.heap.size + 3 := by rw [ho2.size]; simp [hsz3]
  have g6 := g5.new (Nat.le_refl _) (.cells #[.map (some w.heap.size), .slice none 0 0, .map (some (w.heap.size + 2)), .int .i64 0] 51) (.space w.heap.size none (w.heap.size + 2)) ⟨0, heap_alloc_new _ _⟩
  rw [hsz5] at g6
  have hwf1 := wf_none.newNames (b := w.heap.size + 1) rfl
  have HF : Hid (NewRes w (.returned (.pointer (some ⟨w.heap.size + 3, 0, none⟩))) (W5.alloc (.cells #[.map (some w.heap.size), .slice none 0 0, .map (some (w.heap.size + 2)), .int .i64 0] 51))) := by
    refine ⟨w.heap.size + 3, w.heap.size, _, (fun i => if i = 0 then some (w.heap.size + 1) else none), rfl, g6, ⟨?_, by simp [St.set], none, w.heap.size + 2, (fun k => if k = [] then some 0 else none), by simp [St.set], by simp [St.set], fun b n c e => by cases e⟩, ⟨_, rfl⟩, ?_⟩
    rotate_left
    · intro m w0; unfold nmOf; simp only [St.set, noS]; grind
    constructor
    · intro sm g i m h1 h2
      by_cases hsm : sm = w.heap.size
      · subst hsm
        have : g = fun i => if i = 0 then some (w.heap.size + 1) else none := by simp [St.set] at h1; exact h1.symm
        subst this
        simp only at h2
        split at h2
        · cases h2; exact ⟨fun _ => none, by simp [St.set]⟩
        · cases h2
      · simp only [St.set, noS] at h1; grind
    · intro m f k n h1 h2; simp only [St.set, noS] at h1; grind
    · intro n c l h1; simp only [St.set, noS] at h1; grind
    · intro c k v e p h1; simp only [St.set, noS] at h1; grind
    · intro c k v e p h1; simp only [St.set, noS] at h1; grind
    · intro c k v e p f i d h1 h2 h3; simp only [St.set, noS] at h1; grind
    · intro c k v e p c' k' v' p' h1 h2; simp only [St.set, noS] at h1; grind
    · intro d k v e' p h1; simp only [St.set, noS] at h1; grind
    · intro c k v e p h1; simp only [St.set, noS] at h1; grind
    · intro c k v e p h1; simp only [St.set, noS] at h1; grind
    · intro d k v e' p kp vp ep pp h1 h2 h3; simp only [St.set, noS] at h1; grind
    · intro sm g i j m h1 h2 h3; simp only [St.set, noS] at h1; grind
  have hrun1' : (Instr.mapUpdate 47 (.map (some w.heap.size)) (.int .i64 0) (.map (some (w.heap.size + 1)))).run Tryz.prog ((w.alloc (.map #[] 0)).alloc (.map #[] 0)) = .ok () W3 := hrun1
  have hrun2' : (Instr.mapUpdate 48 (.map (some (w.heap.size + 2))) (.string ⟨#[]⟩) (.int .i64 0)).run Tryz.prog (W3.alloc (.map #[] 0)) = .ok () W5 := hrun2
  clear g1 g2 g3 g4 g5 g6 hma1 hma2 ho1 ho2 hrun1 hrun2 hs2 hm2 hr4 hwf1
  go_enter Tryz.func7, Tryz.ntmps7
  go_wp2_with fail
  go_ret
  exact HF.out
end Go.Proofs.YtcaifihdbcjakaaGreat

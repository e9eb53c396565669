/- 'Link' of a space of variables: what it gives, and its last step. -/
import Derived.Test.YtcaifihdbcjakaaGreatVUnset
import Derived.LaidEqlPtr
namespace Go.Proofs.YtcaifihdbcjakaaGreat
set_option linter.unusedVariables false
set_option linter.unusedSimpArgs false
open Go.RowKit
variable {N : Nat}

theorem find_err {S : St} {g : Int → Option Nat} {i : Int} {w : Bs} (h : (findC S g i w).2 ≠ 0) : (findC S g i w).1 = none := by
  unfold findC at h ⊢
  cases hg : g i with
  | none => rfl
  | some m =>
    simp only [hg] at h ⊢
    cases hn : nmOf S m (splitC w).1 with
    | none => simp only [hn] at h; exact absurd rfl h
    | some n =>
      simp only [hn] at h ⊢
      cases hc : nameC S n with
      | none => simp only [hc] at h; exact absurd rfl h
      | some c =>
        simp only [hc] at h ⊢
        split at h
        · exact absurd rfl h
        · split at h
          · rename_i h1 h2; rw [if_neg h1, if_pos h2]
          · split at h
            · rename_i h1 h2 h3; rw [if_neg h1, if_neg h2, if_pos h3]
            · exact absurd rfl h

/-- The state with a name that is a link. -/
def linkS (S : St) (m n c : Nat) (f : Bs → Option Nat) (word : Bs) : St := (S.set n (.name c true)).set m (.nmap fun k => if k = word then some n else f k)

/-- 'Link' is granted. -/
def LinkOk (S : St) (g : Int → Option Nat) (i j : Int) (word target : Bs) : Prop := (∃ m, g i = some m ∧ nmOf S m word = none) ∧ (∃ m, g j = some m) ∧ (splitC word).2.2 = false ∧ ¬ (i = j ∧ (splitC target).1 = word) ∧ (findC S g j target).2 = 0

/-- What 'Link' gives. -/
def LinkRes (N B : Nat) (S : St) (w : World) (x sm : Nat) (g : Int → Option Nat) (i j : Int) (word target : Bs) (en : Ending) (w' : World) : Prop :=
  ∃ r, en = .returned (.int .i64 r) ∧ ((r ≠ 0 ∧ ¬ LinkOk S g i j word target ∧ Goes B S w S w') ∨ (r = 0 ∧ ∃ S1 c n m f, Sp N S1 x sm g ∧ Same S S1 g ∧ More S S1 ∧ findC S1 g j target = (some c, 0) ∧ g i = some m ∧ S1 m = some (.nmap f) ∧ S1 n = none ∧ (splitC word).2.2 = false ∧ ¬ (i = j ∧ (splitC target).1 = word) ∧ Goes B S w (linkS S1 m n c f word) w'))

theorem link_goes {B : Nat} {S S1 : St} {w w1 w3 : World} (hG1 : Goes B S w S1 w1) (hB : B ≤ w.heap.size) {m c : Nat} {f : Bs → Option Nat} {word : Bs} (hm : S1 m = some (.nmap f)) (ho : Only m (w1.alloc (newNameO c true)) w3)
    (hma : MapAt Tryz.prog 9 sv w3 m (fun k' => if k' = word then some (.pointer (some ⟨w1.heap.size, 0, none⟩)) else (f k').map fun c => pv (some c))) : Goes B S w (linkS S1 m w1.heap.size c f word) w3 := by
  have g2 := hG1.new hB (newNameO c true) (.name c true) (heap_alloc_new _ _)
  have hfree : S1 w1.heap.size = none := hG1.rep.free (Nat.le_refl _)
  refine g2.write (b := m) (k0 := .nmap f) ?_ ho ?_
  · simp only [St.set]; rw [if_neg (by rintro rfl; rw [hfree] at hm; cases hm)]; exact hm
  · have e1 : (fun k => (if k = word then some w1.heap.size else f k).map fun c => pv (some c)) = (fun k' => if k' = word then some (.pointer (some ⟨w1.heap.size, 0, none⟩)) else (f k').map fun c => pv (some c)) := by
      funext k; split <;> rfl
    show MapAt _ _ _ _ _ _
    rw [e1]
    exact hma

theorem infoCell : (Tryz.prog.info? 78).map (·.size) = some 5 := by kernel_rfl
theorem ptr_same (c : Nat) (W : World) : (binOp .eql 67 (.pointer (some ⟨c, 0, none⟩)) (.pointer (some ⟨c, 0, none⟩))).run Tryz.prog W = .ok (.bool true) W := by
  obtain ⟨j, hj, _⟩ := Option.map_eq_some_iff.1 infoCell
  exact run_eql_ptr_same W _ Tryz.underlying67 hj
theorem ptr_nil (c : Nat) (W : World) : (binOp .eql 67 (.pointer none) (.pointer (some ⟨c, 0, none⟩))).run Tryz.prog W = .ok (.bool false) W := by kernel_rfl
theorem ptr_other {B : Nat} {S : St} {w : World} (h : Rep B w S) {c d : Nat} {k k' : Int} {v v' : Bs} {e e' p p' : Option Nat} (hc : S c = some (.cell k v e p)) (hd : S d = some (.cell k' v' e' p')) (hne : ¬ c = d) : (∀ m, (binOp .eql 67 (.pointer (some ⟨c, 0, none⟩)) (.pointer (some ⟨d, 0, none⟩))).run Tryz.prog (w.drewN m) = .ok (.bool false) (w.drewN m)) ∧ (∀ m m', (binOp .eql 67 (.pointer (some ⟨c, 0, none⟩)) (.pointer (some ⟨d, 0, none⟩))).run Tryz.prog ((w.drewN m).drewN m') = .ok (.bool false) ((w.drewN m).drewN m')) := by
  obtain ⟨j, hj, hjs⟩ := Option.map_eq_some_iff.1 infoCell
  have key : ∀ m, (binOp .eql 67 (.pointer (some ⟨c, 0, none⟩)) (.pointer (some ⟨d, 0, none⟩))).run Tryz.prog (w.drewN m) = .ok (.bool false) (w.drewN m) := by
    intro m
    obtain ⟨_, n1, h1⟩ := (h.drewN m) c _ hc
    obtain ⟨_, n2, h2⟩ := (h.drewN m) d _ hd
    exact run_eql_ptr_other (w.drewN m) Tryz.underlying67 hj (by rw [hjs]; decide) (by intro e; exact hne (by cases e; rfl)) h1 h2
  exact ⟨key, fun m m' => by rw [World.drewN_drewN]; exact key _⟩

theorem Rep.drew {B : Nat} {w : World} {S : St} (h : Rep B w S) : Rep B w.drew S := fun b k hb => ⟨(h b k hb).1, (h b k hb).2.congr rfl⟩

theorem link_pack {B : Nat} {S S1 : St} {w w1 : World} (hG1 : Goes B S w S1 w1) (hB : B ≤ w.heap.size) {x sm ma : Nat} {g : Int → Option Nat} {fa : Bs → Option Nat} (hp1 : Sp N S1 x sm g) (hmore1 : More S S1) (hma : S ma = some (.nmap fa)) {i : Int} (hi : (Lit.int .i64 i).wf = true) (hgi : g i = some ma) {word : Bs} (hw : word.length ≤ maxLen) (c : Nat) :
    ∃ f1 w3, S1 ma = some (.nmap f1) ∧ w1.cell? ⟨x, 0, none⟩ = some (.map (some sm)) ∧ (w1.alloc (newNameO c true)).cell? ⟨x, 0, none⟩ = some (.map (some sm)) ∧ w3.cell? ⟨x, 0, none⟩ = some (.map (some sm)) ∧ (Instr.lookup 47 (.map (some sm)) (.int .i64 i) false).run Tryz.prog w1 = .ok (.map (some ma)) w1 ∧ (Instr.lookup 47 (.map (some sm)) (.int .i64 i) false).run Tryz.prog (w1.alloc (newNameO c true)) = .ok (.map (some ma)) (w1.alloc (newNameO c true)) ∧
      (Instr.mapUpdate 46 (.map (some ma)) (.string ⟨word.toArray⟩) (.pointer (some ⟨w1.heap.size, 0, none⟩))).run Tryz.prog (w1.alloc (newNameO c true)) = .ok () w3 ∧ Goes B S w (linkS S1 ma w1.heap.size c f1 word) w3 := by
  obtain ⟨f1, hm1, _⟩ := hmore1.nmap hma
  obtain ⟨cs1, rm1, r1, hx1, _⟩ := hp1.space
  have hfree : S1 w1.heap.size = none := hG1.rep.free (Nat.le_refl _)
  have g2 := hG1.new hB (newNameO c true) (.name c true) (heap_alloc_new _ _)
  have hm2 : (S1.set w1.heap.size (.name c true)) ma = some (.nmap f1) := by
    simp only [St.set]; rw [if_neg (by rintro rfl; rw [hfree] at hm1; cases hm1)]; exact hm1
  have hx2 : (S1.set w1.heap.size (.name c true)) x = some (.space sm cs1 rm1) := by
    simp only [St.set]; rw [if_neg (by rintro rfl; rw [hfree] at hx1; cases hx1)]; exact hx1
  obtain ⟨w3, hrun, ho, hma3⟩ := MapAt.store (g2.rep ma _ hm2).2 Skeyed (t := 46) (et := 65) Tryz.underlying46 sv_inj (skey hw) (.pointer (some ⟨w1.heap.size, 0, none⟩))
  have hl := hG1.rep.lookScope hp1.smap hi
  rw [hgi] at hl
  have hgo := link_goes hG1 hB hm1 ho hma3
  have hs2 : (S1.set w1.heap.size (.name c true)) sm = some (.smap g) := by
    have hsm := hp1.smap
    simp only [St.set]; rw [if_neg (by rintro rfl; rw [hfree] at hsm; cases hsm)]; exact hsm
  have hl2 := g2.rep.lookScope hs2 hi
  rw [hgi] at hl2
  have hxm : x ≠ ma := by rintro rfl; rw [hx1] at hm1; cases hm1
  refine ⟨f1, w3, hm1, (hG1.rep.space hx1).1, (g2.rep.space hx2).1, ?_, hl, hl2, hrun, hgo⟩
  have h3 := (g2.rep.space hx2).1
  simp only [World.cell?] at h3 ⊢
  rw [ho.block x hxm]; exact h3

end Go.Proofs.YtcaifihdbcjakaaGreat

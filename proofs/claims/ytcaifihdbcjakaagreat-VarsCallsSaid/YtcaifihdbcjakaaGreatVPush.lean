/- 'Push' of a space of variables: a row of numbers grows. -/
import Derived.Test.YtcaifihdbcjakaaGreatVBegin
import Derived.Maps.AppendAt
namespace Go.Proofs.YtcaifihdbcjakaaGreat
set_option linter.unusedVariables false
set_option linter.unusedSimpArgs false
open Go.RowKit
variable {N : Nat}

theorem WF.rowsOnly {S S' : St} (h : WF S) (he : ∀ n k, (∀ l c, k ≠ Blk.row l c) → (S' n = some k ↔ S n = some k)) : WF S' := by
  have e1 : ∀ {n g}, S' n = some (.smap g) ↔ S n = some (.smap g) := he _ _ (by intros; simp)
  have e2 : ∀ {n g}, S' n = some (.nmap g) ↔ S n = some (.nmap g) := he _ _ (by intros; simp)
  have e3 : ∀ {n c l}, S' n = some (.name c l) ↔ S n = some (.name c l) := he _ _ (by intros; simp)
  have e4 : ∀ {n k v e p}, S' n = some (.cell k v e p) ↔ S n = some (.cell k v e p) := he _ _ (by intros; simp)
  have e5 : ∀ {n g}, S' n = some (.emap g) ↔ S n = some (.emap g) := he _ _ (by intros; simp)
  constructor
  · intro sm g i m h1 h2; obtain ⟨f, hf⟩ := h.scope (e1.1 h1) h2; exact ⟨f, e2.2 hf⟩
  · intro m f k n h1 h2; obtain ⟨c, l, hf⟩ := h.nm (e2.1 h1) h2; exact ⟨c, l, e3.2 hf⟩
  · intro n c l h1; obtain ⟨k, v, e, p, hf⟩ := h.nc (e3.1 h1); exact ⟨k, v, e, p, e4.2 hf⟩
  · intro c k v e p h1; obtain ⟨f, hf⟩ := h.els (e4.1 h1); exact ⟨f, e5.2 hf⟩
  · intro c k v e p h1; obtain ⟨k', v', e', hf⟩ := h.par (e4.1 h1); exact ⟨k', v', e', e4.2 hf⟩
  · intro c k v e p f i d h1 h2 h3; obtain ⟨k', v', e', hf⟩ := h.kid (e4.1 h1) (e5.1 h2) h3; exact ⟨k', v', e', e4.2 hf⟩
  · intro c k v e p c' k' v' p' h1 h2; exact h.own (e4.1 h1) (e4.1 h2)
  · intro d k v e' p h1; obtain ⟨k', v', e, f, i, pp, q1, q2, q3⟩ := h.kids (e4.1 h1); exact ⟨k', v', e, f, i, pp, e4.2 q1, e5.2 q2, q3⟩
  · intro c k v e p h1; exact h.kinds (e4.1 h1)
  · intro c k v e p h1; exact h.elk (e4.1 h1)
  · intro d k v e' p kp vp ep pp h1 h2 h3; exact h.low (e4.1 h1) (e4.1 h2) h3
  · intro sm g i j m h1 h2 h3; exact h.inj (e1.1 h1) h2 h3

section
variable {B : Nat} {S S1 : St} {w w1 w2 : World}

theorem Goes.garbage (h : Goes B S w S1 w1) (hB : B ≤ w.heap.size) (o : Obj) : Goes B S w S1 (w1.alloc o) := by
  have hs := h.below.size
  refine ⟨h.below.alloc (Nat.le_trans hB hs) o, fun b k hb => ⟨(h.rep b k hb).1, (h.rep b k hb).2.congr ((MapKept.heap_alloc w1 o).2 b (h.rep b k hb).2.lt)⟩, fun b hb hn => ?_, h.dom⟩
  exact ((MapKept.heap_alloc w1 o).2 b (by omega)).trans (h.keep b hb hn)

/-- The state with a row in block g, and none in the block that it leaves. -/
def rowS (S : St) (row : Option Nat) (g : Nat) (l : List Int) (c : Nat) : St := fun n => if n = g then some (.row l c) else if some n = row then none else S n

theorem Goes.append (h : Goes B S w S1 w1) {row : Option Nat} (hrow : ∀ b, row = some b → ∃ l c, S1 b = some (.row l c)) (hgrow : w1.grownBy w2 row) {g : Nat} (hg : row = some g ∨ w1.heap.size ≤ g) (hBg : B ≤ g) (hB : B ≤ w.heap.size) {l : List Int} {c : Nat} (hat : BlkAt w2 g (.row l c)) :
    Goes B S w (rowS S1 row g l c) w2 := by
  have hs := h.below.size
  have hbel : Below B w1 w2 := (Below.refl B w1).grown hgrow (by omega) (fun k hk => by obtain ⟨l, c, hb⟩ := hrow k hk; exact (h.rep _ _ hb).1)
  refine ⟨h.below.trans hbel, ?_, ?_, ?_⟩
  · intro b k hb
    simp only [rowS] at hb
    split at hb
    · rename_i e; subst e; cases hb; exact ⟨hBg, hat⟩
    · split at hb
      · cases hb
      · rename_i h1 h2
        obtain ⟨q1, q2⟩ := h.rep b k hb
        exact ⟨q1, q2.congr (hgrow.block b q2.lt h2)⟩
  · intro b hb hn
    have hne : some b ≠ row := by
      intro e; obtain ⟨l', c', hb'⟩ := hrow b e.symm; rw [h.dom b hb hn] at hb'; cases hb'
    exact (hgrow.block b (by omega) hne).trans (h.keep b hb hn)
  · intro b hb hn
    have hd := h.dom b hb hn
    have hne : b ≠ g := by
      rintro rfl
      rcases hg with hg | hg
      · obtain ⟨l', c', hb'⟩ := hrow b hg; rw [hd] at hb'; cases hb'
      · omega
    simp only [rowS]; rw [if_neg hne]; split
    · rfl
    · exact hd
end

theorem calls_own {B : Nat} {S : St} {w : World} (h : Rep B w S) {cs : Option (Nat × Nat × Nat)} (hc : ∀ b n c, cs = some (b, n, c) → n ≤ N ∧ ∃ l, S b = some (.row l c) ∧ RowOk n c l) :
    ∃ (n : Nat) (l : List Int), n ≤ N ∧ l.length = n ∧ (∀ i ∈ l, -9223372036854775808 ≤ i ∧ i ≤ 9223372036854775807) ∧ w.ownsRow B 3 1 (callsV cs) n (l.map iv) ∧ (∀ b, (callsV cs).ownBlock = some b → ∃ l c, S b = some (.row l c)) := by
  cases cs with
  | none => exact ⟨0, [], Nat.zero_le _, rfl, by simp, ⟨rfl, .inl ⟨rfl, rfl⟩⟩, fun b hb => by simp [callsV, Value.ownBlock] at hb⟩
  | some t =>
    obtain ⟨b, n, c⟩ := t
    obtain ⟨hn, l, hb, h1, h2, h3, h4⟩ := hc b n c rfl
    obtain ⟨hBb, cur, hcur, hsz, htk⟩ := h b _ hb
    refine ⟨n, l.take n, hn, by simp; omega, fun i hi => h4 i (List.mem_of_mem_take hi), ⟨by simp; omega, .inr ⟨b, c, cur, rfl, hBb, hcur, by omega, by unfold maxLen; omega, by omega, ?_⟩⟩, fun b' hb' => ?_⟩
    · rw [Nat.mul_one, List.map_take, ← htk, List.take_take, Nat.min_eq_left h1]
    · simp [callsV, Value.ownBlock] at hb'; subst hb'; exact ⟨l, c, hb⟩

theorem push_step {B : Nat} {S S1 : St} {w w1 w2 : World} (hG1 : Goes B S w S1 w1) (hB : B ≤ w.heap.size) (o : Obj) {v v' : Value} {n : Nat} {l : List Int} {i : Int} (hln : l.length = n) (hrow : ∀ b, v.ownBlock = some b → ∃ l c, S1 b = some (.row l c)) (hgrow : (w1.alloc o).grownBy w2 v.ownBlock)
    (hown' : w2.ownsRow B 3 1 v' (n + 1) (l.map iv ++ [iv i])) (hloc : v'.ownBlock = v.ownBlock ∨ v'.ownBlock = some (w1.alloc o).heap.size) :
    ∃ g c, v' = callsV (some (g, n + 1, c)) ∧ n + 1 ≤ c ∧ c ≤ 9223372036854775807 ∧ ((∃ l c, S1 g = some (.row l c)) ∨ S1 g = none) ∧ Goes B S w (rowS S1 v.ownBlock g (l ++ [i]) c) w2 := by
  obtain ⟨_, ⟨_, h0⟩ | ⟨g, c, cur, rfl, hBg, hcur, hnc, hcm, hsz, htk⟩⟩ := hown'
  · omega
  · have hg : v.ownBlock = some g ∨ (w1.alloc o).heap.size ≤ g := by
      rcases hloc with e | e
      · left; rw [← e]; rfl
      · right; simp only [Value.ownBlock, Option.some.injEq] at e; omega
    refine ⟨g, c, rfl, hnc, by unfold maxLen at hcm; omega, ?_, (hG1.garbage hB o).append hrow hgrow hg hBg hB ⟨cur, hcur, by omega, ?_⟩⟩
    · rcases hg with e | e
      · exact .inl (hrow g e)
      · exact .inr (hG1.rep.free (by simp at e; omega))
    · rw [List.length_append, hln, List.map_append]
      rw [Nat.mul_one] at htk
      exact htk

theorem infoInt : (Tryz.prog.info? 3).map (fun i => (i.zero, i.size, i.bytes)) = some (some (.int .i64 0), 1, 8) := by kernel_rfl

theorem rowS_other {S : St} {row : Option Nat} (hrow : ∀ b, row = some b → ∃ l c, S b = some (.row l c)) {g : Nat} (hg : (∃ l c, S g = some (.row l c)) ∨ S g = none) {n : Nat} {k : Blk} (hn : S n = some k) (hk : ∀ l c, k ≠ .row l c) (l : List Int) (c : Nat) : rowS S row g l c n = some k := by
  have h1 : n ≠ g := by
    rintro rfl
    rcases hg with ⟨l', c', hg⟩ | hg
    · rw [hn] at hg; exact hk _ _ (Option.some.inj hg)
    · rw [hn] at hg; cases hg
  have h2 : some n ≠ row := by
    intro e; obtain ⟨l', c', hb⟩ := hrow n e.symm; rw [hn] at hb; exact hk _ _ (Option.some.inj hb)
  simp only [rowS]; rw [if_neg h1, if_neg h2]; exact hn

/-- Some sound state is reached. -/
def ActRes (N B : Nat) (S : St) (w : World) (x sm : Nat) (w' : World) : Prop := ∃ S' g', Goes B S w S' w' ∧ Sp N S' x sm g'

theorem push_end {B : Nat} {S S1 : St} {w w2 : World} {x sm rm1 gb n c : Nat} {g1 : Int → Option Nat} {cs1 : Option (Nat × Nat × Nat)} {l : List Int} {i : Int} {row : Option Nat} (hp1 : Sp N S1 x sm g1) (hx1 : S1 x = some (.space sm cs1 rm1)) (hG2 : Goes B S w (rowS S1 row gb (l ++ [i]) c) w2)
    (hrow : ∀ b, row = some b → ∃ l c, S1 b = some (.row l c)) (hgb : (∃ l c, S1 gb = some (.row l c)) ∨ S1 gb = none) (hln : l.length = n) (hnN : n ≤ N) (hlw : ∀ i ∈ l, -9223372036854775808 ≤ i ∧ i ≤ 9223372036854775807) (hwfi : (Lit.int .i64 i).wf = true) (hc1 : n + 1 ≤ c) (hc2 : c ≤ 9223372036854775807) :
    ActRes (N + 1) B S w x sm (w2.setCell ⟨x, 1, none⟩ (callsV (some (gb, n + 1, c)))) := by
  have oth := fun {m : Nat} {k : Blk} (hm : S1 m = some k) (hk : ∀ l c, k ≠ .row l c) => rowS_other hrow hgb hm hk (l ++ [i]) c
  have hwf2 : WF (rowS S1 row gb (l ++ [i]) c) := by
    refine hp1.wf.rowsOnly fun m k hk => ⟨fun hm => ?_, fun hm => oth hm hk⟩
    simp only [rowS] at hm
    split at hm
    · cases hm; exact absurd rfl (hk _ _)
    · split at hm
      · cases hm
      · exact hm
  have hxx := oth hx1 (by intros; simp)
  obtain ⟨cs0, rm0, r0, q1, q2, q3⟩ := hp1.space
  rw [hx1] at q1; cases q1
  have hsm := oth hp1.smap (by intros; simp)
  have hrm := oth q2 (by intros; simp)
  obtain ⟨_, n', hbx⟩ := hG2.rep x _ hxx
  refine ⟨(rowS S1 row gb (l ++ [i]) c).set x (.space sm (some (gb, n + 1, c)) rm1), g1, hG2.write hxx (only_setCell _ _ _ _) ⟨n', heap_setCell_same _ _ _ _ _ _ hbx⟩, hwf2.space hxx, by grind, some (gb, n + 1, c), rm1, r0, by simp [St.set], by grind, ?_⟩
  intro b n1 c1 e
  cases e
  have hgx : gb ≠ x := by
    rintro rfl
    rcases hgb with ⟨l', c', hgb⟩ | hgb
    · rw [hx1] at hgb; cases hgb
    · rw [hx1] at hgb; cases hgb
  refine ⟨by omega, l ++ [i], by simp only [St.set]; rw [if_neg hgx]; simp [rowS], by simp [hln], by simp [hln]; omega, hc2, fun j hj => ?_⟩
  rw [List.mem_append, List.mem_singleton] at hj
  rcases hj with hj | rfl
  · exact hlw j hj
  · have hh := hwfi
    simp only [Lit.wf, Bool.and_eq_true, decide_eq_true_eq] at hh
    exact hh

set_option maxRecDepth 100000 in
set_option maxHeartbeats 1600000 in
theorem Push_any {B : Nat} {S : St} {w : World} (hN : N ≤ 100000) (hB : B ≤ w.heap.size) (h : Rep B w S) {x sm : Nat} {g : Int → Option Nat} (hp : Sp N S x sm g) :
    Calls Tryz.prog 11 #[.pointer (some ⟨x, 0, none⟩)] w fun en w' => (∃ i, en = .returned (.int .i64 i)) ∧ ActRes (N + 1) B S w x sm w' := by
  obtain ⟨i0, hi0, hz0, hz1, hz2⟩ := info_parts infoInt
  have HBG := Lib.hid (begin_any hB h hp)
  go_enter Tryz.func11, Tryz.ntmps11
  go_wp2_with (first | (go_at_call 34; refine HBG.out.mono ?_; rintro e w1 ⟨i, S1, m, rfl, hwfi, hG1, hp1⟩; obtain ⟨cs1, rm1, r1, hx1, hrm1, hcs1⟩ := hp1.space; obtain ⟨y0, y1, _, _, yf⟩ := hG1.rep.space hx1; obtain ⟨n, l, hnN, hln, hlw, hown, hrow⟩ := calls_own hG1.rep hcs1; obtain ⟨cv, hcv⟩ : ∃ cv, callsV cs1 = cv := ⟨_, rfl⟩; rw [hcv] at y1 hown hrow; clear hcv) | (at_builtin; refine wpList_append_own_at _ rfl _ _ 49 rfl B 3 i0 (.int .i64 0) 1 8 Tryz.underlying49 hi0 hz0 hz1 hz2 rfl (by decide) cv n (l.map iv) rfl (hown.alloc _) ⟨w1.heap.size, 0, none⟩ 1 1 [.int .i64 i] rfl rfl (cell_one_new _ _ _) (by simp [Value.oneCell']) (by unfold maxLen; omega) (by omega) (by have := hG1.below.size; simp; omega) ?_; intro v' w2 hown' hgrow hnil hloc; obtain ⟨gb, c, hv', hc1, hc2, hgb, hG2⟩ := push_step hG1 hB _ hln hrow hgrow hown' hloc; simp only [callsV] at hv'; subst hv'; have hxx := rowS_other hrow hgb hx1 (by intros; simp) (l ++ [i]) c; obtain ⟨_, z1, _, _, zf⟩ := hG2.rep.space hxx; have zf1 := zf 1))
  all_goals (go_ret; exact ⟨⟨i, rfl⟩, push_end hp1 hx1 hG2 hrow hgb hln hnN hlw hwfi hc1 hc2⟩)
end Go.Proofs.YtcaifihdbcjakaaGreat

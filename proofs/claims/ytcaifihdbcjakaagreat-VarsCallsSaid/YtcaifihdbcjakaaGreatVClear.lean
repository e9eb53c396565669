/- 'clear' of a variable: it and its elements are not set any more. -/
import Derived.Test.YtcaifihdbcjakaaGreatVPop
import Derived.Maps.RangeWalk
import Derived.Deep.LoopGhost
namespace Go.Proofs.YtcaifihdbcjakaaGreat
set_option linter.unusedVariables false
set_option linter.unusedSimpArgs false
open Go.RowKit
open Go.ChangeMaps (setBlock)
variable {N : Nat}

/-- S' is S, but c and its elements are not set. -/
structure Cleared (S S' : St) (c : Nat) : Prop where
  self : ∀ {k v e p}, S c = some (.cell k v e p) → S' c = some (.cell 0 [] e p)
  kid : ∀ {n k v e}, S n = some (.cell k v e (some c)) → n ≠ c → S' n = some (.cell 0 [] e (some c))
  other : ∀ {n}, n ≠ c → (∀ k v e, S n ≠ some (.cell k v e (some c))) → S' n = S n

theorem WF.cleared {S S' : St} (h : WF S) {c : Nat} {k0 : Int} {v0 : Bs} {e0 p0 : Option Nat} (hc : S c = some (.cell k0 v0 e0 p0)) (hC : Cleared S S' c) : WF S' := by
  have fwd : ∀ {n k v e p}, S n = some (.cell k v e p) → ∃ k' v', S' n = some (.cell k' v' e p) ∧ (k' = k ∧ v' = v ∧ n ≠ c ∧ p ≠ some c ∨ k' = 0) := by
    intro n k v e p hn
    by_cases hnc : n = c
    · subst hnc; exact ⟨0, [], hC.self hn, .inr rfl⟩
    · by_cases hp : p = some c
      · subst hp; exact ⟨0, [], hC.kid hn hnc, .inr rfl⟩
      · refine ⟨k, v, ?_, .inl ⟨rfl, rfl, hnc, hp⟩⟩
        rw [hC.other hnc (fun k' v' e' h' => hp (by rw [hn] at h'; cases h'; rfl)), hn]
  have bwd : ∀ {n k v e p}, S' n = some (.cell k v e p) → ∃ k' v', S n = some (.cell k' v' e p) ∧ (k = k' ∧ n ≠ c ∧ p ≠ some c ∨ k = 0) := by
    intro n k v e p hn
    by_cases hnc : n = c
    · subst hnc; have := hC.self hc; rw [hn] at this; cases this; exact ⟨k0, v0, hc, .inr rfl⟩
    · by_cases hp : ∃ k' v' e', S n = some (.cell k' v' e' (some c))
      · obtain ⟨k', v', e', h'⟩ := hp
        have := hC.kid h' hnc; rw [hn] at this; cases this; exact ⟨k', v', h', .inr rfl⟩
      · have h2 := hC.other hnc (fun k' v' e' h' => hp ⟨k', v', e', h'⟩)
        rw [hn] at h2
        refine ⟨k, v, h2.symm, .inl ⟨rfl, hnc, ?_⟩⟩
        rintro rfl; exact hp ⟨k, v, e, h2.symm⟩
  have eqv : ∀ {n b}, (∀ k v e p, b ≠ Blk.cell k v e p) → (S' n = some b ↔ S n = some b) := by
    intro n b hb
    by_cases hnc : n = c
    · subst hnc
      have := hC.self hc
      exact ⟨fun h1 => by rw [this] at h1; cases h1; exact absurd rfl (hb _ _ _ _), fun h1 => by rw [hc] at h1; cases h1; exact absurd rfl (hb _ _ _ _)⟩
    · by_cases hp : ∃ k' v' e', S n = some (.cell k' v' e' (some c))
      · obtain ⟨k', v', e', h'⟩ := hp
        have := hC.kid h' hnc
        exact ⟨fun h1 => by rw [this] at h1; cases h1; exact absurd rfl (hb _ _ _ _), fun h1 => by rw [h'] at h1; cases h1; exact absurd rfl (hb _ _ _ _)⟩
      · rw [hC.other hnc (fun k' v' e' h' => hp ⟨k', v', e', h'⟩)]
  have e1 : ∀ {n g}, S' n = some (.smap g) ↔ S n = some (.smap g) := eqv (by intros; simp)
  have e2 : ∀ {n g}, S' n = some (.nmap g) ↔ S n = some (.nmap g) := eqv (by intros; simp)
  have e3 : ∀ {n c l}, S' n = some (.name c l) ↔ S n = some (.name c l) := eqv (by intros; simp)
  have e5 : ∀ {n g}, S' n = some (.emap g) ↔ S n = some (.emap g) := eqv (by intros; simp)
  constructor
  · intro sm g i m h1 h2; obtain ⟨f, hf⟩ := h.scope (e1.1 h1) h2; exact ⟨f, e2.2 hf⟩
  · intro m f k n h1 h2; obtain ⟨c, l, hf⟩ := h.nm (e2.1 h1) h2; exact ⟨c, l, e3.2 hf⟩
  · intro n c l h1; obtain ⟨k, v, e, p, hf⟩ := h.nc (e3.1 h1); obtain ⟨k', v', hf', _⟩ := fwd hf; exact ⟨k', v', e, p, hf'⟩
  · intro c k v e p h1; obtain ⟨k', v', h1', _⟩ := bwd h1; obtain ⟨f, hf⟩ := h.els h1'; exact ⟨f, e5.2 hf⟩
  · intro c k v e p h1; obtain ⟨k', v', h1', _⟩ := bwd h1; obtain ⟨k2, v2, e2', hf⟩ := h.par h1'; obtain ⟨k3, v3, hf', _⟩ := fwd hf; exact ⟨k3, v3, e2', hf'⟩
  · intro c k v e p f i d h1 h2 h3
    obtain ⟨k', v', h1', _⟩ := bwd h1
    obtain ⟨k2, v2, e2', hf⟩ := h.kid h1' (e5.1 h2) h3
    obtain ⟨k3, v3, hf', _⟩ := fwd hf
    exact ⟨k3, v3, e2', hf'⟩
  · intro c k v e p c' k' v' p' h1 h2
    obtain ⟨_, _, h1', _⟩ := bwd h1
    obtain ⟨_, _, h2', _⟩ := bwd h2
    exact h.own h1' h2'
  · intro d k v e' p h1
    obtain ⟨_, _, h1', _⟩ := bwd h1
    obtain ⟨k2, v2, e, f, i, pp, q1, q2, q3⟩ := h.kids h1'
    obtain ⟨k3, v3, hf', _⟩ := fwd q1
    exact ⟨k3, v3, e, f, i, pp, hf', e5.2 q2, q3⟩
  · intro c k v e p h1
    obtain ⟨k', v', h1', hk⟩ := bwd h1
    have := h.kinds h1'
    rcases hk with ⟨rfl, _, _⟩ | rfl
    · exact this
    · exact .inl rfl
  · intro c k v e p h1
    obtain ⟨k', v', h1', hk⟩ := bwd h1
    have := h.elk h1'
    rcases hk with ⟨rfl, _, _⟩ | rfl
    · exact this
    · decide
  · intro d k v e' p kp vp ep pp h1 h2 h3
    obtain ⟨k', v', h1', hk⟩ := bwd h1
    obtain ⟨kq, vq, h2', hkq⟩ := bwd h2
    rcases hk with ⟨rfl, _, hpc⟩ | rfl
    · rcases hkq with ⟨rfl, _, _⟩ | rfl
      · exact h.low h1' h2' h3
      · by_cases hpp : p = c
        · exact absurd (by rw [hpp]) hpc
        · -- the parent is an element of c: but a parent has none
          obtain ⟨kz, vz, ez, hz⟩ := h.par h1'
          rw [h2'] at hz; cases hz
          have := hC.other hpp (fun k' v' e' h' => by rw [h2'] at h'; cases h')
          rw [h2, h2'] at this; cases this
          exact h.low h1' h2' h3
    · rfl
  · intro sm g i j m h1 h2 h3; exact h.inj (e1.1 h1) h2 h3

/-- What the loop has done: the elements that were seen are not set. -/
structure Part (S S' : St) (c : Nat) (es : Array MapEntry) (seen : Array Nat) : Prop where
  self : ∀ {k v e p}, S c = some (.cell k v e p) → S' c = some (.cell 0 [] e p)
  kid : ∀ {n k v e}, S n = some (.cell k v e (some c)) → n ≠ c → S' n = S n ∨ S' n = some (.cell 0 [] e (some c))
  done : ∀ {n k v e}, S n = some (.cell k v e (some c)) → n ≠ c → (∃ x ∈ es.toList, seen.contains x.born = true ∧ x.val = pv (some n)) → S' n = some (.cell 0 [] e (some c))
  other : ∀ {n}, n ≠ c → (∀ k v e, S n ≠ some (.cell k v e (some c))) → S' n = S n

theorem Goes.iter {B : Nat} {S S1 : St} {w w1 w2 : World} (h : Goes B S w S1 w1) (hB : B ≤ w.heap.size) {r : Nat} (hr : w.heap.size ≤ r) (hn : S1 r = none) (ho : Only r w1 w2) : Goes B S w S1 w2 := by
  refine ⟨h.below.trans (ho.below (by omega)), fun b k hb => ?_, fun b hb hb' => ?_, h.dom⟩
  · obtain ⟨h1, h2⟩ := h.rep b k hb
    have hne : b ≠ r := by rintro rfl; rw [hn] at hb; cases hb
    exact ⟨h1, h2.congr (ho.block b hne)⟩
  · exact (ho.block b (by omega)).trans (h.keep b hb hb')

theorem Rep.noIter {B : Nat} {S : St} {w : World} (h : Rep B w S) {r : Nat} {m : Option Nat} {a b : Nat} {s : Array Nat} (hr : w.heap[r]? = some (.mapIter m a s b)) : S r = none := by
  cases hk : S r with
  | none => rfl
  | some k =>
    exfalso
    have h2 := (h r k hk).2
    have key : ∀ o, w.heap[r]? = some o → o = .mapIter m a s b := fun o ho => by rw [hr] at ho; exact (Option.some.inj ho).symm
    cases k with
    | cell k v e p => obtain ⟨n, h3⟩ := h2; cases key _ h3
    | emap f => obtain ⟨es, cl, h3, _⟩ := h2; cases key _ h3
    | name c l => cases key _ h2
    | nmap f => obtain ⟨es, cl, h3, _⟩ := h2; cases key _ h3
    | smap f => obtain ⟨es, cl, h3, _⟩ := h2; cases key _ h3
    | rmap f => obtain ⟨es, cl, h3, _⟩ := h2; cases key _ h3
    | row l c => obtain ⟨cur, h3, _⟩ := h2; cases key _ h3
    | space sm cs rm => obtain ⟨n, h3⟩ := h2; cases key _ h3

theorem goes_kid0 {B : Nat} {S : St} {w : World} (h : Rep B w S) {c : Nat} {k : Int} {v : Bs} {e p : Option Nat} (hc : S c = some (.cell k v e p)) :
    Goes B S w (S.set c (.cell 0 [] e p)) ((w.setCell ⟨c, 0, none⟩ (.int .i64 0)).setCell ⟨c, 1, none⟩ (.string ⟨([] : Bs).toArray⟩)) := by
  obtain ⟨_, n, hb⟩ := h c _ hc
  have h1 := heap_setCell_same w c 0 _ _ (.int .i64 0) hb
  have h2 := heap_setCell_same _ c 1 _ _ (.string ⟨([] : Bs).toArray⟩) h1
  exact h.goes.write hc ((only_setCell _ _ _ _).trans (only_setCell _ _ _ _)) ⟨n, h2⟩
theorem goes_kid1 {B : Nat} {S : St} {w : World} (h : Rep B w S) {c : Nat} {k : Int} {v : Bs} {e p : Option Nat} (hc : S c = some (.cell k v e p)) (n' : Int) :
    Goes B S w (S.set c (.cell 0 [] e p)) (((w.setCell ⟨c, 4, none⟩ (.int .i64 n')).setCell ⟨c, 0, none⟩ (.int .i64 0)).setCell ⟨c, 1, none⟩ (.string ⟨([] : Bs).toArray⟩)) := by
  obtain ⟨_, n, hb⟩ := h c _ hc
  have h0 := heap_setCell_same w c 4 _ _ (.int .i64 n') hb
  have h1 := heap_setCell_same _ c 0 _ _ (.int .i64 0) h0
  have h2 := heap_setCell_same _ c 1 _ _ (.string ⟨([] : Bs).toArray⟩) h1
  exact h.goes.write hc (((only_setCell _ _ _ _).trans (only_setCell _ _ _ _)).trans (only_setCell _ _ _ _)) ⟨n', h2⟩

theorem Part.step {S Sx : St} {c : Nat} {es : Array MapEntry} {seen : Array Nat} (h : Part S Sx c es seen) {x : MapEntry} {d : Nat} {kd : Int} {vd : Bs} {ed : Option Nat} (hd : S d = some (.cell kd vd ed (some c))) (hdc : d ≠ c) (hx : x.val = pv (some d)) (hall : ∀ y ∈ es.toList, y.born = x.born → y = x) :
    Part S (Sx.set d (.cell 0 [] ed (some c))) c es (seen.push x.born) := by
  refine ⟨fun hc => ?_, fun {n k v e} hn hne => ?_, fun {n k v e} hn hne hs => ?_, fun {n} hne ho => ?_⟩
  · simp only [St.set]; rw [if_neg (Ne.symm hdc)]; exact h.self hc
  · by_cases hnd : n = d
    · subst hnd; rw [hd] at hn; cases hn; right; simp [St.set]
    · simp only [St.set]; rw [if_neg hnd]; exact h.kid hn hne
  · by_cases hnd : n = d
    · subst hnd; rw [hd] at hn; cases hn; simp [St.set]
    · simp only [St.set]; rw [if_neg hnd]
      obtain ⟨y, hy, hsy, hvy⟩ := hs
      refine h.done hn hne ⟨y, hy, ?_, hvy⟩
      rw [Array.contains_push, Bool.or_eq_true] at hsy
      rcases hsy with hsy | hsy
      · exact hsy
      · have := hall y hy (by simpa using hsy)
        rw [this, hx] at hvy
        simp only [pv, Option.map_some, Value.pointer.injEq, Option.some.injEq, Addr.mk.injEq, and_true] at hvy
        exact absurd hvy.symm hnd
  · have hnd : n ≠ d := by rintro rfl; exact ho _ _ _ hd
    simp only [St.set]; rw [if_neg hnd]; exact h.other hne ho

def ClearRes (B : Nat) (S : St) (w : World) (c : Nat) (en : Ending) (w' : World) : Prop := en = .returned (.tuple #[]) ∧ ∃ S', Goes B S w S' w' ∧ Cleared S S' c

set_option maxRecDepth 100000 in
set_option maxHeartbeats 1600000 in
theorem clear_any {B : Nat} {S : St} {w : World} (hB : B ≤ w.heap.size) (h : Rep B w S) (hwf : WF S) {c : Nat} {k : Int} {v : Bs} {e p : Option Nat} (hc : S c = some (.cell k v e p)) :
    Calls Tryz.prog 54 #[.pointer (some ⟨c, 0, none⟩)] w fun en w' => ClearRes B S w c en w' := by
  obtain ⟨c0, c1, _, _, ⟨n, c4⟩, cf⟩ := h.cell hc
  have hf0 := cf 0
  have hf1 := cf 1
  have hf4 := cf 4
  obtain ⟨n1, hn1⟩ : ∃ n1, IntKind.i64.wrap (n + 1) = n1 := ⟨_, rfl⟩
  have hG := goes_setCell (k' := 0) (v' := []) h hc n1
  have hS1 : (S.set c (.cell 0 [] e p)) c = some (.cell 0 [] e p) := by simp [St.set]
  obtain ⟨_, _, d2, _, _, _⟩ := hG.rep.cell hS1
  cases e with
  | none =>
    have hrg := run_range_nilMap (P := Tryz.prog) (((w.setCell ⟨c, 0, none⟩ (.int .i64 0)).setCell ⟨c, 1, none⟩ (.string ⟨([] : Bs).toArray⟩)).setCell ⟨c, 4, none⟩ (.int .i64 n1)) 76 9 67 Tryz.underlying76
    have hnx := fun ty => run_next_nilMap (P := Tryz.prog) (((w.setCell ⟨c, 0, none⟩ (.int .i64 0)).setCell ⟨c, 1, none⟩ (.string ⟨([] : Bs).toArray⟩)).setCell ⟨c, 4, none⟩ (.int .i64 n1)) ty 0 0 #[]
    have HR : Hid (ClearRes B S w c (.returned (.tuple #[])) ((((w.setCell ⟨c, 0, none⟩ (.int .i64 0)).setCell ⟨c, 1, none⟩ (.string ⟨([] : Bs).toArray⟩)).setCell ⟨c, 4, none⟩ (.int .i64 n1)).alloc (.mapIter none 0 #[] 0))) := by
      refine ⟨rfl, S.set c (.cell 0 [] none p), hG.garbage hB _, ⟨fun h1 => by rw [hc] at h1; cases h1; exact hS1, fun h1 hne => ?_, fun hne _ => by simp [St.set, hne]⟩⟩
      obtain ⟨k', v', e', f, i, pp, q1, _⟩ := hwf.kids h1
      rw [hc] at q1; cases q1
    simp only [World.size_setCell] at hrg hnx
    clear hG
    go_enter Tryz.func54, Tryz.ntmps54
    go_wp2_with fail
    go_loopw [3] (fun _ wr => wr = ((((w.setCell ⟨c, 0, none⟩ (.int .i64 0)).setCell ⟨c, 1, none⟩ (.string ⟨([] : Bs).toArray⟩)).setCell ⟨c, 4, none⟩ (.int .i64 n1)).alloc (.mapIter none 0 #[] 0))) (fun _ _ => 0)
    case atStart => first | trivial | rfl
    case round =>
      subst hrel
      go_wp2_with fail
      go_end0
      exact HR.out
  | some e0 =>
    obtain ⟨f, he0⟩ := hwf.els hc
    have hce : e0 ≠ c := by rintro rfl; rw [hc] at he0; cases he0
    have hS1e : (S.set c (.cell 0 [] (some e0) p)) e0 = some (.emap f) := by simp only [St.set]; rw [if_neg hce]; exact he0
    obtain ⟨es, clock, hes, hst, hkeys, hgm⟩ := (hG.rep e0 _ hS1e).2
    obtain ⟨hs1, hs2, hs3⟩ := (MapKept.stamped_iff es clock).1 hst
    have hrg := run_range_map (P := Tryz.prog) (((w.setCell ⟨c, 0, none⟩ (.int .i64 0)).setCell ⟨c, 1, none⟩ (.string ⟨([] : Bs).toArray⟩)).setCell ⟨c, 4, none⟩ (.int .i64 n1)) 76 9 67 e0 es clock Tryz.underlying76 hes
    simp only [World.size_setCell] at hrg
    have hcl : c < w.heap.size := (h c _ hc).2.lt
    have hel : e0 < w.heap.size := (h e0 _ he0).2.lt
    have HG0 : Hid (Goes B S w (S.set c (.cell 0 [] (some e0) p)) ((((w.setCell ⟨c, 0, none⟩ (.int .i64 0)).setCell ⟨c, 1, none⟩ (.string ⟨([] : Bs).toArray⟩)).setCell ⟨c, 4, none⟩ (.int .i64 n1)).alloc (.mapIter (some e0) clock #[] clock))) := hG.garbage hB _
    have HP0 : Hid (Part S (S.set c (.cell 0 [] (some e0) p)) c es #[]) := by
      refine ⟨fun h1 => by rw [hc] at h1; cases h1; exact hS1, fun h1 hne => .inl (by simp [St.set, hne]), fun _ _ ⟨y, _, hy, _⟩ => by simp at hy, fun hne _ => by simp [St.set, hne]⟩
    have hpc : p ≠ some c := by
      rintro rfl
      obtain ⟨_, _, _, hq⟩ := hwf.par hc
      rw [hc] at hq; cases hq
    have HI0 : Hid (((((w.setCell ⟨c, 0, none⟩ (.int .i64 0)).setCell ⟨c, 1, none⟩ (.string ⟨([] : Bs).toArray⟩)).setCell ⟨c, 4, none⟩ (.int .i64 n1)).alloc (.mapIter (some e0) clock #[] clock)).heap[w.heap.size]? = some (.mapIter (some e0) clock #[] clock)) := by
      have := (MapKept.heap_alloc (((w.setCell ⟨c, 0, none⟩ (.int .i64 0)).setCell ⟨c, 1, none⟩ (.string ⟨([] : Bs).toArray⟩)).setCell ⟨c, 4, none⟩ (.int .i64 n1)) (.mapIter (some e0) clock #[] clock)).1
      rwa [show (((w.setCell ⟨c, 0, none⟩ (.int .i64 0)).setCell ⟨c, 1, none⟩ (.string ⟨([] : Bs).toArray⟩)).setCell ⟨c, 4, none⟩ (.int .i64 n1)).heap.size = w.heap.size from by simp] at this
    have HE0 : Hid (((((w.setCell ⟨c, 0, none⟩ (.int .i64 0)).setCell ⟨c, 1, none⟩ (.string ⟨([] : Bs).toArray⟩)).setCell ⟨c, 4, none⟩ (.int .i64 n1)).alloc (.mapIter (some e0) clock #[] clock)).heap[e0]? = some (.map es clock)) := by
      have := (MapKept.heap_alloc (((w.setCell ⟨c, 0, none⟩ (.int .i64 0)).setCell ⟨c, 1, none⟩ (.string ⟨([] : Bs).toArray⟩)).setCell ⟨c, 4, none⟩ (.int .i64 n1)) (.mapIter (some e0) clock #[] clock)).2 e0 (by simpa using hel)
      exact this.trans hes
    have HK := Lib.hid hkeys
    have HM := Lib.hid hgm
    clear hG hkeys hgm hes hst hS1e
    go_enter Tryz.func54, Tryz.ntmps54
    go_wp2_with fail
    go_loopg [3] (leftOf es #[]).size (fun g _ wr => ∃ (seen : Array Nat) (Sx : St), (leftOf es seen).size = g ∧ Hid (wr.heap[w.heap.size]? = some (.mapIter (some e0) clock seen clock)) ∧ Hid (wr.heap[e0]? = some (.map es clock)) ∧ Hid (Goes B S w Sx wr) ∧ Hid (Part S Sx c es seen))
    case atStart => exact ⟨#[], _, rfl, HI0, HE0, HG0, HP0⟩
    case round =>
      obtain ⟨seen, Sx, hsz, HI, HE, HG, HP⟩ := hrel
      have hfree : Sx w.heap.size = none := HG.out.rep.noIter HI.out
      rcases run_next_at (P := Tryz.prog) wr 0 w.heap.size e0 clock clock seen es clock HI.out HE.out (fun x hx => hs1 x hx) (Nat.le_refl _) with ⟨h0, hrun⟩ | ⟨en, hen, w1, hw1, hrun⟩
      · have HR : Hid (ClearRes B S w c (.returned (.tuple #[])) wr) := by
          refine ⟨rfl, Sx, HG.out, ⟨fun h1 => HP.out.self h1, fun {n k v e} h1 hne => ?_, fun hne ho => HP.out.other hne ho⟩⟩
          obtain ⟨k', v', e', f', i, pp, q1, q2, q3⟩ := hwf.kids h1
          rw [hc] at q1; cases q1
          rw [he0] at q2; cases q2
          obtain ⟨y, hy, _, hyv⟩ := (HM.out i (pv (some n))).1 (by rw [q3]; rfl)
          exact HP.out.done h1 hne ⟨y, hy, all_seen es seen h0 y hy, hyv⟩
        clear HP HG HI HE
        go_wp2_with fail
        go_end0
        exact HR.out
      · obtain ⟨hem, hns⟩ := mem_left hen
        obtain ⟨kx, lx, hkx, _⟩ := HK.out en hem
        obtain ⟨d, hfd, hvd⟩ : ∃ d, f kx = some d ∧ en.val = pv (some d) := by
          have h1 := (HM.out kx en.val).2 ⟨en, hem, hkx, rfl⟩
          cases hf : f kx with
          | none => rw [hf] at h1; simp at h1
          | some d => rw [hf] at h1; exact ⟨d, rfl, (Option.some.inj h1).symm⟩
        obtain ⟨kd, vd, ed, hd⟩ := hwf.kid hc he0 hfd
        have hdc : d ≠ c := by rintro rfl; rw [hc] at hd; cases hd; exact hpc rfl
        obtain ⟨kx', vx', hxd⟩ : ∃ k' v', Sx d = some (.cell k' v' ed (some c)) := by
          rcases HP.out.kid hd hdc with e1 | e1
          · exact ⟨kd, vd, e1.trans hd⟩
          · exact ⟨0, [], e1⟩
        have hr1 : w1.heap = wr.heap := by rcases hw1 with rfl | rfl <;> rfl
        have hG1 : Goes B S w Sx w1 := by rcases hw1 with rfl | rfl; exact HG.out; exact HG.out.drew
        have hI1 : w1.heap[w.heap.size]? = some (.mapIter (some e0) clock seen clock) := by rw [hr1]; exact HI.out
        have hE1 : w1.heap[e0]? = some (.map es clock) := by rw [hr1]; exact HE.out
        have hG2 := hG1.iter hB (Nat.le_refl _) hfree (only_setBlock w1 w.heap.size (.mapIter (some e0) clock (seen.push en.born) clock))
        have hI2 := at_setBlock hI1 (.mapIter (some e0) clock (seen.push en.born) clock)
        have hE2 : (setBlock w1 w.heap.size (.mapIter (some e0) clock (seen.push en.born) clock)).heap[e0]? = some (.map es clock) := ((only_setBlock w1 w.heap.size _).block e0 (by omega)).trans hE1
        have hent := run_entry_at (P := Tryz.prog) _ w.heap.size e0 clock seen es clock en hI2 hE2 hem hs2
        rw [hvd] at hrun hent
        simp only [pv, Option.map_some] at hrun hent
        generalize setBlock w1 w.heap.size (.mapIter (some e0) clock (seen.push en.born) clock) = W2 at *
        obtain ⟨y0, y1, _, _, ⟨n4, y4⟩, yf⟩ := hG2.rep.cell hxd
        have yf0 := yf 0
        have yf1 := yf 1
        have yf4 := yf 4
        have hdr : d ≠ w.heap.size := by rintro rfl; rw [hfree] at hxd; cases hxd
        have hde : e0 ≠ d := by rintro rfl; rw [hd] at he0; cases he0
        have HP2 := Lib.hid (HP.out.step hd hdc hvd (fun y hy hb => by
          obtain ⟨i1, hi1, e1⟩ := List.getElem_of_mem hy
          obtain ⟨i2, hi2, e2⟩ := List.getElem_of_mem hem
          have hnd := List.pairwise_iff_getElem.1 hs2
          rcases Nat.lt_trichotomy i1 i2 with hlt | heq | hlt
          · exact absurd (show (es.toList.map (·.born))[i1]'(by simpa using hi1) = (es.toList.map (·.born))[i2]'(by simpa using hi2) from by rw [List.getElem_map, List.getElem_map, e1, e2, hb]) (hnd i1 i2 (by simpa using hi1) (by simpa using hi2) hlt)
          · subst heq; rw [← e1, ← e2]
          · exact absurd (show (es.toList.map (·.born))[i2]'(by simpa using hi2) = (es.toList.map (·.born))[i1]'(by simpa using hi1) from by rw [List.getElem_map, List.getElem_map, e1, e2, hb]) (hnd i2 i1 (by simpa using hi2) (by simpa using hi1) hlt)))
        have hlt := left_shrinks es seen en hen
        have HG2 := Lib.hid hG2
        have HXD := Lib.hid hxd
        have HI2 := Lib.hid hI2
        have HE2 := Lib.hid hE2
        have HEN := Lib.hid hdr
        clear hG1 hG2 hI1 hE1 hr1 hw1 HP HG HI HE hI2 hE2 hxd hvd hkx hem hns hen hd hfd
        by_cases hk0 : kx' = 0
        · subst hk0
          go_wp2_with fail
          go_roundg (leftOf es (seen.push en.born)).size
          case measure => omega
          case rel =>
            refine ⟨seen.push en.born, _, rfl, Lib.hid ?_, Lib.hid ?_, Lib.hid (HG2.out.trans (goes_kid0 HG2.out.rep HXD.out)), HP2⟩
            · exact (((only_setCell _ _ _ _).trans (only_setCell _ _ _ _)).block _ (Ne.symm hdr)).trans HI2.out
            · exact (((only_setCell _ _ _ _).trans (only_setCell _ _ _ _)).block _ hde).trans HE2.out
        · have tk : ((kx' : Int) != 0) = true := by simpa using hk0
          go_wp2_with fail
          go_roundg (leftOf es (seen.push en.born)).size
          case measure => omega
          case rel =>
            refine ⟨seen.push en.born, _, rfl, Lib.hid ?_, Lib.hid ?_, Lib.hid (HG2.out.trans (goes_kid1 HG2.out.rep HXD.out _)), HP2⟩
            · exact ((((only_setCell _ _ _ _).trans (only_setCell _ _ _ _)).trans (only_setCell _ _ _ _)).block _ (Ne.symm hdr)).trans HI2.out
            · exact ((((only_setCell _ _ _ _).trans (only_setCell _ _ _ _)).trans (only_setCell _ _ _ _)).block _ hde).trans HE2.out
end Go.Proofs.YtcaifihdbcjakaaGreat

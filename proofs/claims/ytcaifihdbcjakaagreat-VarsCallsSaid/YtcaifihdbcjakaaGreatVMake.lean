/- 'make' of a space of variables: the cell that a word means, made if it is not there; no answer changes. -/
import Derived.Test.YtcaifihdbcjakaaGreatVElem
import Derived.Test.YtcaifihdbcjakaaGreatVSame
namespace Go.Proofs.YtcaifihdbcjakaaGreat
set_option linter.unusedVariables false
set_option linter.unusedSimpArgs false
open Go.RowKit
variable {N : Nat}

/-- S' has all that S has, but for the maps of elements. -/
structure More (S S' : St) : Prop where
  smap : ∀ {b g}, S b = some (.smap g) → S' b = some (.smap g)
  rmap : ∀ {b g}, S b = some (.rmap g) → S' b = some (.rmap g)
  row : ∀ {b l c}, S b = some (.row l c) → S' b = some (.row l c)
  space : ∀ {b sm cs rm}, S b = some (.space sm cs rm) → S' b = some (.space sm cs rm)
  name : ∀ {n c l}, S n = some (.name c l) → S' n = some (.name c l)
  nmap : ∀ {m f}, S m = some (.nmap f) → ∃ f', S' m = some (.nmap f') ∧ ∀ w n, f w = some n → f' w = some n
  cell : ∀ {c k v e p}, S c = some (.cell k v e p) → ∃ e', S' c = some (.cell k v e' p)
  el : ∀ {c i d}, elOf S c i = some d → elOf S' c i = some d

theorem More.refl (S : St) : More S S := ⟨id, id, id, id, id, fun h => ⟨_, h, fun _ _ h => h⟩, fun h => ⟨_, h⟩, id⟩
theorem More.trans {S S' S'' : St} (h : More S S') (k : More S' S'') : More S S'' := by
  refine ⟨fun a => k.smap (h.smap a), fun a => k.rmap (h.rmap a), fun a => k.row (h.row a), fun a => k.space (h.space a), fun a => k.name (h.name a), fun a => ?_, fun a => ?_, fun a => k.el (h.el a)⟩
  · obtain ⟨f', h1, h2⟩ := h.nmap a
    obtain ⟨f'', h3, h4⟩ := k.nmap h1
    exact ⟨f'', h3, fun w n hw => h4 w n (h2 w n hw)⟩
  · obtain ⟨e', h1⟩ := h.cell a
    exact k.cell h1
theorem Sp.more {S S' : St} {x sm : Nat} {g : Int → Option Nat} (h : Sp N S x sm g) (hwf : WF S') (hm : More S S') : Sp N S' x sm g := by
  obtain ⟨cs, rm, r, h1, h2, h3⟩ := h.space
  refine ⟨hwf, hm.smap h.smap, cs, rm, r, hm.space h1, hm.rmap h2, fun b n c e => ?_⟩
  obtain ⟨h4, l, h5, h6⟩ := h3 b n c e
  exact ⟨h4, l, hm.row h5, h6⟩

section
variable {S : St}
theorem more_own {m b : Nat} {f : Bs → Option Nat} {word : Bs} (hwf : WF S) (hm : S m = some (.nmap f)) (hf : f word = none) (hb : S b = none) (hb1 : S (b + 1) = none) : More S (ownS S m b f word) := by
  have hel := fun n i => own_el (word := word) hwf hm hb hb1 n i
  have hel' : ∀ n i, elOf (ownS S m b f word) n i = elOf S n i := hel
  revert hel'
  unfold ownS
  intro hel'
  refine ⟨fun h => by grind, fun h => by grind, fun h => by grind, fun h => by grind, fun h => by grind, fun {m' f'} h => ?_, fun {c k v e p} h => ⟨e, by grind⟩, fun h => by rw [hel']; exact h⟩
  by_cases hmm : m' = m
  · subst hmm
    refine ⟨fun k => if k = word then some (b + 1) else f k, by grind, fun w n hw => ?_⟩
    grind
  · exact ⟨f', by grind, fun _ _ h => h⟩
theorem more_els {c e : Nat} {k : Int} {v : Bs} (hwf : WF S) (hc : S c = some (.cell k v none none)) (he : S e = none) : More S (elsS S c e k v) := by
  have hel := (els_view (k := k) (v := v) hwf hc he).2.2.2.2.2.2
  unfold elsS
  refine ⟨fun h => by grind, fun h => by grind, fun h => by grind, fun h => by grind, fun h => by grind, fun {m' f'} h => ⟨f', by grind, fun _ _ h => h⟩, fun {c' k' v' e' p'} h => ?_, fun h => by rw [hel]; exact h⟩
  by_cases hcc : c' = c
  · exact ⟨some e, by grind⟩
  · exact ⟨e', by grind⟩
theorem more_el {c e d : Nat} {k : Int} {v : Bs} {f : Bs → Option Nat} {i : Bs} (hwf : WF S) (hc : S c = some (.cell k v (some e) none)) (he : S e = some (.emap f)) (hi : f i = none) (hd : S d = none) : More S (elS S c e d f i) := by
  have hel : ∀ n j, elOf (elS S c e d f i) n j = if n = c ∧ j = i then some d else elOf S n j := (el_view (ix := i) hwf hc he hd).2.2.2.2.2.2
  have hcn : elOf S c i = none := by simp [elOf, hc, he, hi]
  revert hel
  unfold elS
  intro hel
  exact ⟨fun h => by grind, fun h => by grind, fun h => by grind, fun h => by grind, fun h => by grind, fun {m' f'} h => ⟨f', by grind, fun _ _ h => h⟩, fun {c' k' v' e' p'} h => ⟨e', by grind⟩, fun {c' i' d'} h => by
    rw [hel]; split
    · rename_i h2; obtain ⟨rfl, rfl⟩ := h2; rw [hcn] at h; cases h
    · exact h⟩
end

theorem goes_drewN {B : Nat} {S : St} {w : World} (h : Rep B w S) : ∀ m, Goes B S w S (w.drewN m)
  | 0 => h.goes
  | m + 1 => by
    have := (goes_drewN h m).drew
    rwa [show (w.drewN m).drew = w.drewN (m + 1) from by rw [← World.drewN_drewN]; rfl] at this

/-- What 'own' gives. -/
def OwnRes (N B : Nat) (S : St) (w : World) (x sm m : Nat) (g : Int → Option Nat) (f : Bs → Option Nat) (word : Bs) (en : Ending) (w' : World) : Prop :=
  ∃ n c l S1 f1, en = .returned (.pointer (some ⟨n, 0, none⟩)) ∧ Goes B S w S1 w' ∧ Sp N S1 x sm g ∧ Same S S1 g ∧ More S S1 ∧ S1 n = some (.name c l) ∧ S1 m = some (.nmap f1) ∧ f1 word = some n ∧ (f word = some n ∧ S1 = S ∨ f word = none ∧ S1 c = some (.cell 0 [] none none))

theorem own_res {B : Nat} {S : St} {w : World} (hB : B ≤ w.heap.size) (h : Rep B w S) {x sm m : Nat} {g : Int → Option Nat} {f : Bs → Option Nat} (hp : Sp N S x sm g) {i : Int} (hi : (Lit.int .i64 i).wf = true) (hg : g i = some m) (hm : S m = some (.nmap f)) {word : Bs} (hw : word.length ≤ maxLen) :
    Calls Tryz.prog 67 #[.pointer (some ⟨x, 0, none⟩), .int .i64 i, .string ⟨word.toArray⟩] w fun en w' => OwnRes N B S w x sm m g f word en w' := by
  have hb : S w.heap.size = none := h.free (Nat.le_refl _)
  have hb1 : S (w.heap.size + 1) = none := h.free (by omega)
  refine (own_any hB h hp hi hg hm hw).mono ?_
  rintro en w' ⟨n, S', rfl, hG, ⟨hf, rfl, rfl⟩ | ⟨hf, rfl, rfl⟩⟩
  · obtain ⟨c, l, hn⟩ := hp.wf.nm hm hf
    exact ⟨n, c, l, S', f, rfl, hG, hp, Same.refl _ _, More.refl _, hn, hm, hf, .inl ⟨hf, rfl⟩⟩
  · have hmo := more_own hp.wf hm hf hb hb1
    have hmb : m ≠ w.heap.size := by rintro rfl; rw [hb] at hm; cases hm
    have hmb1 : m ≠ w.heap.size + 1 := by rintro e; rw [e, hb1] at hm; cases hm
    refine ⟨_, w.heap.size, false, _, (fun k => if k = word then some (w.heap.size + 1) else f k), rfl, hG, hp.more (hp.wf.ownS word hb hb1 hm) hmo, own_same hp.wf hp.smap hm hf hb hb1, hmo, ?_, ?_, by simp, .inr ⟨hf, ?_⟩⟩
    · unfold ownS; grind
    · unfold ownS; grind
    · unfold ownS; grind
end Go.Proofs.YtcaifihdbcjakaaGreat

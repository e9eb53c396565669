/- A space of variables, plainly: what its blocks hold, when it is sound, and what its acts do to it. No program in sight. -/
import Derived.Lib.Bytealg
namespace Go.Proofs.YtcaifihdbcjakaaGreat
set_option linter.unusedVariables false
set_option linter.unusedSimpArgs false

abbrev Bs := List UInt8

/-- 'Split'. -/
def splitC (s : Bs) : Bs × Bs × Bool :=
  if Lib.indexByte s 40 = -1 ∨ s.getLast? ≠ some 41 then (s, [], false)
  else (s.take (Lib.indexByte s 40).toNat, (s.drop ((Lib.indexByte s 40).toNat + 1)).take (s.length - 1 - ((Lib.indexByte s 40).toNat + 1)), true)

/-- What a block holds. -/
inductive Blk where
  | cell (kind : Int) (val : Bs) (els par : Option Nat)
  | emap (f : Bs → Option Nat)
  | name (c : Nat) (l : Bool)
  | nmap (f : Bs → Option Nat)
  | smap (f : Int → Option Nat)
  | rmap (f : Bs → Option Int)
  | row (l : List Int) (cap : Nat)
  | space (sm : Nat) (calls : Option (Nat × Nat × Nat)) (rm : Nat)

abbrev St := Nat → Option Blk
def St.set (S : St) (b : Nat) (k : Blk) : St := fun n => if n = b then some k else S n
@[grind =] theorem St.set_apply (S : St) (b : Nat) (k : Blk) (n : Nat) : S.set b k n = if n = b then some k else S n := rfl

structure WF (S : St) : Prop where
  scope : ∀ {sm g i m}, S sm = some (.smap g) → g i = some m → ∃ f, S m = some (.nmap f)
  nm : ∀ {m f k n}, S m = some (.nmap f) → f k = some n → ∃ c l, S n = some (.name c l)
  nc : ∀ {n c l}, S n = some (.name c l) → ∃ k v e p, S c = some (.cell k v e p)
  els : ∀ {c k v e p}, S c = some (.cell k v (some e) p) → ∃ f, S e = some (.emap f)
  par : ∀ {c k v e p}, S c = some (.cell k v e (some p)) → ∃ k' v' e', S p = some (.cell k' v' e' none)
  kid : ∀ {c k v e p f i d}, S c = some (.cell k v (some e) p) → S e = some (.emap f) → f i = some d → ∃ k' v' e', S d = some (.cell k' v' e' (some c))
  own : ∀ {c k v e p c' k' v' p'}, S c = some (.cell k v (some e) p) → S c' = some (.cell k' v' (some e) p') → c = c'
  kids : ∀ {d k v e' p}, S d = some (.cell k v e' (some p)) → ∃ k' v' e f i pp, S p = some (.cell k' v' (some e) pp) ∧ S e = some (.emap f) ∧ f i = some d
  kinds : ∀ {c k v e p}, S c = some (.cell k v e p) → (k = 0 ∨ k = 1 ∨ k = 2)
  elk : ∀ {c k v e p}, S c = some (.cell k v e (some p)) → k ≠ 2
  low : ∀ {d k v e' p kp vp ep pp}, S d = some (.cell k v e' (some p)) → S p = some (.cell kp vp ep pp) → kp ≠ 2 → k = 0
  inj : ∀ {sm g i j m}, S sm = some (.smap g) → g i = some m → g j = some m → i = j

section
variable {S : St}

/-- A new scope's names. -/
theorem WF.newNames (h : WF S) {b : Nat} (hb : S b = none) : WF (S.set b (.nmap fun _ => none)) := by
  constructor
  · intro sm g i m h1 h2; have := @WF.scope _ h sm g i m; grind
  · intro m f k n h1 h2; have := @WF.nm _ h m f k n; grind
  · intro n c l h1; have := @WF.nc _ h n c l; grind
  · intro c k v e p h1; have := @WF.els _ h c k v e p; grind
  · intro c k v e p h1; have := @WF.par _ h c k v e p; grind
  · intro c k v e p f i d h1 h2 h3; have := @WF.kid _ h c k v e p f i d; grind
  · intro c k v e p c' k' v' p' h1 h2; have := @WF.own _ h c k v e p c' k' v' p'; grind
  · intro d k v e' p h1
    obtain ⟨k1, v1, e1, f1, i1, pp1, q1, q2, q3⟩ := @WF.kids _ h d k v e' p (by grind)
    exact ⟨k1, v1, e1, f1, i1, pp1, by grind, by grind, q3⟩
  · intro c k v e p h1; have := @WF.kinds _ h c k v e p; grind
  · intro c k v e p h1; have := @WF.elk _ h c k v e p; grind
  · intro d k v e' p kp vp ep pp h1 h2 h3; have := @WF.low _ h d k v e' p kp vp ep pp; have := @WF.par _ h d k v e' p; grind
  · intro sm g i j m h1 h2 h3; have := @WF.inj _ h sm g i j m; grind
/-- A scope is led to. -/
theorem WF.bind (h : WF S) {sm0 m0 : Nat} {g0 : Int → Option Nat} {f0 : Bs → Option Nat} (n0 : Int) (hs : S sm0 = some (.smap g0)) (hm : S m0 = some (.nmap f0)) (hn : ∀ i, g0 i ≠ some m0) : WF (S.set sm0 (.smap fun i => if i = n0 then some m0 else g0 i)) := by
  constructor
  · intro sm g i m h1 h2; have := @WF.scope _ h sm g i m; have := @WF.scope _ h sm0 g0 i m hs; grind
  · intro m f k n h1 h2; have := @WF.nm _ h m f k n; grind
  · intro n c l h1; have := @WF.nc _ h n c l; grind
  · intro c k v e p h1; have := @WF.els _ h c k v e p; grind
  · intro c k v e p h1; have := @WF.par _ h c k v e p; grind
  · intro c k v e p f i d h1 h2 h3; have := @WF.kid _ h c k v e p f i d; grind
  · intro c k v e p c' k' v' p' h1 h2; have := @WF.own _ h c k v e p c' k' v' p'; grind
  · intro d k v e' p h1
    obtain ⟨k1, v1, e1, f1, i1, pp1, q1, q2, q3⟩ := @WF.kids _ h d k v e' p (by grind)
    exact ⟨k1, v1, e1, f1, i1, pp1, by grind, by grind, q3⟩
  · intro c k v e p h1; have := @WF.kinds _ h c k v e p; grind
  · intro c k v e p h1; have := @WF.elk _ h c k v e p; grind
  · intro d k v e' p kp vp ep pp h1 h2 h3; have := @WF.low _ h d k v e' p kp vp ep pp; have := @WF.par _ h d k v e' p; grind
  · intro sm g i j m h1 h2 h3; have := @WF.inj _ h sm g i j m; have := @WF.inj _ h sm0 g0 i j m hs; grind
/-- A scope is gone. -/
theorem WF.unbind (h : WF S) {sm0 : Nat} {g0 : Int → Option Nat} (n0 : Int) (hs : S sm0 = some (.smap g0)) : WF (S.set sm0 (.smap fun i => if i = n0 then none else g0 i)) := by
  constructor
  · intro sm g i m h1 h2; have := @WF.scope _ h sm g i m; have := @WF.scope _ h sm0 g0 i m hs; grind
  · intro m f k n h1 h2; have := @WF.nm _ h m f k n; grind
  · intro n c l h1; have := @WF.nc _ h n c l; grind
  · intro c k v e p h1; have := @WF.els _ h c k v e p; grind
  · intro c k v e p h1; have := @WF.par _ h c k v e p; grind
  · intro c k v e p f i d h1 h2 h3; have := @WF.kid _ h c k v e p f i d; grind
  · intro c k v e p c' k' v' p' h1 h2; have := @WF.own _ h c k v e p c' k' v' p'; grind
  · intro d k v e' p h1
    obtain ⟨k1, v1, e1, f1, i1, pp1, q1, q2, q3⟩ := @WF.kids _ h d k v e' p (by grind)
    exact ⟨k1, v1, e1, f1, i1, pp1, by grind, by grind, q3⟩
  · intro c k v e p h1; have := @WF.kinds _ h c k v e p; grind
  · intro c k v e p h1; have := @WF.elk _ h c k v e p; grind
  · intro d k v e' p kp vp ep pp h1 h2 h3; have := @WF.low _ h d k v e' p kp vp ep pp; have := @WF.par _ h d k v e' p; grind
  · intro sm g i j m h1 h2 h3; have := @WF.inj _ h sm g i j m; have := @WF.inj _ h sm0 g0 i j m hs; grind
/-- A room. -/
theorem WF.rooms (h : WF S) {b : Nat} {r r' : Bs → Option Int} (hb : S b = some (.rmap r)) : WF (S.set b (.rmap r')) := by
  constructor
  · intro sm g i m h1 h2; have := @WF.scope _ h sm g i m; grind
  · intro m f k n h1 h2; have := @WF.nm _ h m f k n; grind
  · intro n c l h1; have := @WF.nc _ h n c l; grind
  · intro c k v e p h1; have := @WF.els _ h c k v e p; grind
  · intro c k v e p h1; have := @WF.par _ h c k v e p; grind
  · intro c k v e p f i d h1 h2 h3; have := @WF.kid _ h c k v e p f i d; grind
  · intro c k v e p c' k' v' p' h1 h2; have := @WF.own _ h c k v e p c' k' v' p'; grind
  · intro d k v e' p h1
    obtain ⟨k1, v1, e1, f1, i1, pp1, q1, q2, q3⟩ := @WF.kids _ h d k v e' p (by grind)
    exact ⟨k1, v1, e1, f1, i1, pp1, by grind, by grind, q3⟩
  · intro c k v e p h1; have := @WF.kinds _ h c k v e p; grind
  · intro c k v e p h1; have := @WF.elk _ h c k v e p; grind
  · intro d k v e' p kp vp ep pp h1 h2 h3; have := @WF.low _ h d k v e' p kp vp ep pp; have := @WF.par _ h d k v e' p; grind
  · intro sm g i j m h1 h2 h3; have := @WF.inj _ h sm g i j m; grind
/-- A row of numbers. -/
theorem WF.rows (h : WF S) {b c c' : Nat} {l l' : List Int} (hb : S b = some (.row l c)) : WF (S.set b (.row l' c')) := by
  constructor
  · intro sm g i m h1 h2; have := @WF.scope _ h sm g i m; grind
  · intro m f k n h1 h2; have := @WF.nm _ h m f k n; grind
  · intro n c l h1; have := @WF.nc _ h n c l; grind
  · intro c k v e p h1; have := @WF.els _ h c k v e p; grind
  · intro c k v e p h1; have := @WF.par _ h c k v e p; grind
  · intro c k v e p f i d h1 h2 h3; have := @WF.kid _ h c k v e p f i d; grind
  · intro c k v e p c' k' v' p' h1 h2; have := @WF.own _ h c k v e p c' k' v' p'; grind
  · intro d k v e' p h1
    obtain ⟨k1, v1, e1, f1, i1, pp1, q1, q2, q3⟩ := @WF.kids _ h d k v e' p (by grind)
    exact ⟨k1, v1, e1, f1, i1, pp1, by grind, by grind, q3⟩
  · intro c k v e p h1; have := @WF.kinds _ h c k v e p; grind
  · intro c k v e p h1; have := @WF.elk _ h c k v e p; grind
  · intro d k v e' p kp vp ep pp h1 h2 h3; have := @WF.low _ h d k v e' p kp vp ep pp; have := @WF.par _ h d k v e' p; grind
  · intro sm g i j m h1 h2 h3; have := @WF.inj _ h sm g i j m; grind
/-- A new row of numbers. -/
theorem WF.newRow (h : WF S) {b c : Nat} {l : List Int} (hb : S b = none) : WF (S.set b (.row l c)) := by
  constructor
  · intro sm g i m h1 h2; have := @WF.scope _ h sm g i m; grind
  · intro m f k n h1 h2; have := @WF.nm _ h m f k n; grind
  · intro n c l h1; have := @WF.nc _ h n c l; grind
  · intro c k v e p h1; have := @WF.els _ h c k v e p; grind
  · intro c k v e p h1; have := @WF.par _ h c k v e p; grind
  · intro c k v e p f i d h1 h2 h3; have := @WF.kid _ h c k v e p f i d; grind
  · intro c k v e p c' k' v' p' h1 h2; have := @WF.own _ h c k v e p c' k' v' p'; grind
  · intro d k v e' p h1
    obtain ⟨k1, v1, e1, f1, i1, pp1, q1, q2, q3⟩ := @WF.kids _ h d k v e' p (by grind)
    exact ⟨k1, v1, e1, f1, i1, pp1, by grind, by grind, q3⟩
  · intro c k v e p h1; have := @WF.kinds _ h c k v e p; grind
  · intro c k v e p h1; have := @WF.elk _ h c k v e p; grind
  · intro d k v e' p kp vp ep pp h1 h2 h3; have := @WF.low _ h d k v e' p kp vp ep pp; have := @WF.par _ h d k v e' p; grind
  · intro sm g i j m h1 h2 h3; have := @WF.inj _ h sm g i j m; grind
/-- The space itself. -/
theorem WF.space (h : WF S) {x sm sm' rm rm' : Nat} {cs cs' : Option (Nat × Nat × Nat)} (hx : S x = some (.space sm cs rm)) : WF (S.set x (.space sm' cs' rm')) := by
  constructor
  · intro sm g i m h1 h2; have := @WF.scope _ h sm g i m; grind
  · intro m f k n h1 h2; have := @WF.nm _ h m f k n; grind
  · intro n c l h1; have := @WF.nc _ h n c l; grind
  · intro c k v e p h1; have := @WF.els _ h c k v e p; grind
  · intro c k v e p h1; have := @WF.par _ h c k v e p; grind
  · intro c k v e p f i d h1 h2 h3; have := @WF.kid _ h c k v e p f i d; grind
  · intro c k v e p c' k' v' p' h1 h2; have := @WF.own _ h c k v e p c' k' v' p'; grind
  · intro d k v e' p h1
    obtain ⟨k1, v1, e1, f1, i1, pp1, q1, q2, q3⟩ := @WF.kids _ h d k v e' p (by grind)
    exact ⟨k1, v1, e1, f1, i1, pp1, by grind, by grind, q3⟩
  · intro c k v e p h1; have := @WF.kinds _ h c k v e p; grind
  · intro c k v e p h1; have := @WF.elk _ h c k v e p; grind
  · intro d k v e' p kp vp ep pp h1 h2 h3; have := @WF.low _ h d k v e' p kp vp ep pp; have := @WF.par _ h d k v e' p; grind
  · intro sm g i j m h1 h2 h3; have := @WF.inj _ h sm g i j m; grind
/-- A new variable. -/
theorem WF.newCell (h : WF S) {c : Nat} (hc : S c = none) : WF (S.set c (.cell 0 [] none none)) := by
  constructor
  · intro sm g i m h1 h2; have := @WF.scope _ h sm g i m; grind
  · intro m f k n h1 h2; have := @WF.nm _ h m f k n; grind
  · intro n c l h1; have := @WF.nc _ h n c l; grind
  · intro c k v e p h1; have := @WF.els _ h c k v e p; grind
  · intro c k v e p h1; have := @WF.par _ h c k v e p; grind
  · intro c k v e p f i d h1 h2 h3; have := @WF.kid _ h c k v e p f i d; grind
  · intro c k v e p c' k' v' p' h1 h2; have := @WF.own _ h c k v e p c' k' v' p'; grind
  · intro d k v e' p h1
    obtain ⟨k1, v1, e1, f1, i1, pp1, q1, q2, q3⟩ := @WF.kids _ h d k v e' p (by grind)
    exact ⟨k1, v1, e1, f1, i1, pp1, by grind, by grind, q3⟩
  · intro c k v e p h1; have := @WF.kinds _ h c k v e p; grind
  · intro c k v e p h1; have := @WF.elk _ h c k v e p; grind
  · intro d k v e' p kp vp ep pp h1 h2 h3; have := @WF.low _ h d k v e' p kp vp ep pp; have := @WF.par _ h d k v e' p; grind
  · intro sm g i j m h1 h2 h3; have := @WF.inj _ h sm g i j m; grind
/-- A new name. -/
theorem WF.newName (h : WF S) {n c : Nat} {l : Bool} {k : Int} {v : Bs} {e p : Option Nat} (hn : S n = none) (hc : S c = some (.cell k v e p)) : WF (S.set n (.name c l)) := by
  constructor
  · intro sm g i m h1 h2; have := @WF.scope _ h sm g i m; grind
  · intro m f k n h1 h2; have := @WF.nm _ h m f k n; grind
  · intro n c l h1; have := @WF.nc _ h n c l; grind
  · intro c k v e p h1; have := @WF.els _ h c k v e p; grind
  · intro c k v e p h1; have := @WF.par _ h c k v e p; grind
  · intro c k v e p f i d h1 h2 h3; have := @WF.kid _ h c k v e p f i d; grind
  · intro c k v e p c' k' v' p' h1 h2; have := @WF.own _ h c k v e p c' k' v' p'; grind
  · intro d k v e' p h1
    obtain ⟨k1, v1, e1, f1, i1, pp1, q1, q2, q3⟩ := @WF.kids _ h d k v e' p (by grind)
    exact ⟨k1, v1, e1, f1, i1, pp1, by grind, by grind, q3⟩
  · intro c k v e p h1; have := @WF.kinds _ h c k v e p; grind
  · intro c k v e p h1; have := @WF.elk _ h c k v e p; grind
  · intro d k v e' p kp vp ep pp h1 h2 h3; have := @WF.low _ h d k v e' p kp vp ep pp; have := @WF.par _ h d k v e' p; grind
  · intro sm g i j m h1 h2 h3; have := @WF.inj _ h sm g i j m; grind
/-- A name is led to. -/
theorem WF.named (h : WF S) {m0 n0 c0 : Nat} {l0 : Bool} {f0 : Bs → Option Nat} (w0 : Bs) (hm : S m0 = some (.nmap f0)) (hn : S n0 = some (.name c0 l0)) : WF (S.set m0 (.nmap fun k => if k = w0 then some n0 else f0 k)) := by
  constructor
  · intro sm g i m h1 h2; have := @WF.scope _ h sm g i m; grind
  · intro m f k n h1 h2; have := @WF.nm _ h m f k n; have := @WF.nm _ h m0 f0 k n hm; grind
  · intro n c l h1; have := @WF.nc _ h n c l; grind
  · intro c k v e p h1; have := @WF.els _ h c k v e p; grind
  · intro c k v e p h1; have := @WF.par _ h c k v e p; grind
  · intro c k v e p f i d h1 h2 h3; have := @WF.kid _ h c k v e p f i d; grind
  · intro c k v e p c' k' v' p' h1 h2; have := @WF.own _ h c k v e p c' k' v' p'; grind
  · intro d k v e' p h1
    obtain ⟨k1, v1, e1, f1, i1, pp1, q1, q2, q3⟩ := @WF.kids _ h d k v e' p (by grind)
    exact ⟨k1, v1, e1, f1, i1, pp1, by grind, by grind, q3⟩
  · intro c k v e p h1; have := @WF.kinds _ h c k v e p; grind
  · intro c k v e p h1; have := @WF.elk _ h c k v e p; grind
  · intro d k v e' p kp vp ep pp h1 h2 h3; have := @WF.low _ h d k v e' p kp vp ep pp; have := @WF.par _ h d k v e' p; grind
  · intro sm g i j m h1 h2 h3; have := @WF.inj _ h sm g i j m; grind
/-- A map of elements for a variable. -/
theorem WF.newEls (h : WF S) {c e : Nat} {k : Int} {v : Bs} {p : Option Nat} (he : S e = none) (hc : S c = some (.cell k v none p)) : WF ((S.set e (.emap fun _ => none)).set c (.cell k v (some e) p)) := by
  have hne : c ≠ e := by grind
  have hno : ∀ c' k' v' p', S c' ≠ some (.cell k' v' (some e) p') := by
    intro c' k' v' p' h'; have := @WF.els _ h c' k' v' e p' h'; grind
  have hnk : ∀ d k' v' e', S d ≠ some (.cell k' v' e' (some c)) := by
    intro d k' v' e' h'; have := @WF.kids _ h d k' v' e' c h'; grind
  constructor
  · intro sm g i m h1 h2; have := @WF.scope _ h sm g i m; grind
  · intro m f k n h1 h2; have := @WF.nm _ h m f k n; grind
  · intro n c l h1; have := @WF.nc _ h n c l; grind
  · intro c k v e p h1; have := @WF.els _ h c k v e p; grind
  · intro c1 k1 v1 e1 p1 h1
    by_cases hcc : c1 = c
    · subst hcc
      have := @WF.par _ h c1 k v none p1; grind
    · have := @WF.par _ h c1 k1 v1 e1 p1; grind
  · intro c1 k1 v1 e1 p1 f i d h1 h2 h3; have := @WF.kid _ h c1 k1 v1 e1 p1 f i d; have := hnk d; grind
  · intro c1 k1 v1 e1 p1 c2 k2 v2 p2 h1 h2; have := @WF.own _ h c1 k1 v1 e1 p1 c2 k2 v2 p2; have := hno c1 k1 v1 p1; have := hno c2 k2 v2 p2; grind
  · intro d k1 v1 e' p1 h1
    by_cases hcc : d = c
    · subst hcc
      have h1' : some (Blk.cell k v (some e) p) = some (.cell k1 v1 e' (some p1)) := by rw [← h1]; simp [St.set]
      obtain ⟨k2, v2, e2, f2, i2, pp2, q1, q2, q3⟩ := @WF.kids _ h d k v none p1 (by grind)
      exact ⟨k2, v2, e2, f2, i2, pp2, by grind, by grind, q3⟩
    · obtain ⟨k2, v2, e2, f2, i2, pp2, q1, q2, q3⟩ := @WF.kids _ h d k1 v1 e' p1 (by grind)
      exact ⟨k2, v2, e2, f2, i2, pp2, by grind, by grind, q3⟩
  · intro c1 k1 v1 e1 p1 h1; have := @WF.kinds _ h c1 k1 v1 e1 p1; have := @WF.kinds _ h c k v none p; grind
  · intro c1 k1 v1 e1 p1 h1; have := @WF.elk _ h c1 k1 v1 e1 p1; have := @WF.elk _ h c k v none p1; grind
  · intro d k1 v1 e' p1 kp vp ep pp h1 h2 h3
    have a1 := @WF.low _ h d k1 v1 e' p1 kp vp ep pp
    have a2 := @WF.low _ h c k v none p1 kp vp ep pp
    have a3 := hnk d k1 v1 e'
    have a4 := hnk c k v none
    grind
  · intro sm g i j m h1 h2 h3; have := @WF.inj _ h sm g i j m; grind
/-- A new element. -/
theorem WF.newEl (h : WF S) {c e d : Nat} {k : Int} {v : Bs} {f : Bs → Option Nat} (i : Bs) (hd : S d = none) (hc : S c = some (.cell k v (some e) none)) (he : S e = some (.emap f)) (hi : f i = none) : WF ((S.set d (.cell 0 [] none (some c))).set e (.emap fun j => if j = i then some d else f j)) := by
  have hdc : d ≠ c := by grind
  have hde : d ≠ e := by grind
  have hce : c ≠ e := by grind
  have hnd : ∀ c' k' v' e', S c' ≠ some (.cell k' v' e' (some d)) := by
    intro c' k' v' e' h'; have := @WF.par _ h c' k' v' e' d h'; grind
  have hnf : ∀ e' f' j, S e' = some (.emap f') → ∀ c' k' v' p', S c' = some (.cell k' v' (some e') p') → f' j ≠ some d := by
    intro e' f' j h1 c' k' v' p' h2 h3; have := @WF.kid _ h c' k' v' e' p' f' j d h2 h1 h3; grind
  constructor
  · intro sm g i m h1 h2; have := @WF.scope _ h sm g i m; grind
  · intro m f k n h1 h2; have := @WF.nm _ h m f k n; grind
  · intro n c l h1; have := @WF.nc _ h n c l; grind
  · intro c k v e p h1; have := @WF.els _ h c k v e p; grind
  · intro c1 k1 v1 e1 p1 h1; have := @WF.par _ h c1 k1 v1 e1 p1; grind
  · intro c1 k1 v1 e1 p1 f1 i1 d1 h1 h2 h3
    by_cases hc1 : c1 = d
    · subst hc1
      exfalso
      have : some (Blk.cell 0 [] none (some c)) = some (.cell k1 v1 (some e1) p1) := by rw [← h1]; simp [St.set, hde]
      grind
    · have g1 : S c1 = some (.cell k1 v1 (some e1) p1) := by grind
      by_cases he1 : e1 = e
      · subst he1
        have hcc := @WF.own _ h c1 k1 v1 e1 p1 c k v none g1 hc
        subst hcc
        have g2 : f1 = fun j => if j = i then some d else f j := by grind
        subst g2
        by_cases hi1 : i1 = i
        · have : d1 = d := by grind
          subst this
          exact ⟨0, [], none, by grind⟩
        · obtain ⟨k2, v2, e2, q⟩ := @WF.kid _ h c1 k v e1 none f i1 d1 hc he (by grind)
          exact ⟨k2, v2, e2, by grind⟩
      · obtain ⟨k2, v2, e2, q⟩ := @WF.kid _ h c1 k1 v1 e1 p1 f1 i1 d1 g1 (by grind) h3
        exact ⟨k2, v2, e2, by grind⟩
  · intro c1 k1 v1 e1 p1 c2 k2 v2 p2 h1 h2; have := @WF.own _ h c1 k1 v1 e1 p1 c2 k2 v2 p2; grind
  · intro d1 k1 v1 e' p1 h1
    by_cases hcc : d1 = d
    · subst hcc
      have h1' : some (Blk.cell 0 [] none (some c)) = some (.cell k1 v1 e' (some p1)) := by rw [← h1]; simp [St.set, hde]
      have : p1 = c := by grind
      subst this
      exact ⟨k, v, e, fun j => if j = i then some d1 else f j, i, none, by grind, by grind, by simp⟩
    · obtain ⟨k2, v2, e2, f2, i2, pp2, q1, q2, q3⟩ := @WF.kids _ h d1 k1 v1 e' p1 (by grind)
      by_cases he2 : e2 = e
      · subst he2
        have : f2 = f := by grind
        subst this
        exact ⟨k2, v2, e2, fun j => if j = i then some d else f2 j, i2, pp2, by grind, by grind, by grind⟩
      · exact ⟨k2, v2, e2, f2, i2, pp2, by grind, by grind, q3⟩
  · intro c1 k1 v1 e1 p1 h1; have := @WF.kinds _ h c1 k1 v1 e1 p1; grind
  · intro c1 k1 v1 e1 p1 h1; have := @WF.elk _ h c1 k1 v1 e1 p1; grind
  · intro d1 k1 v1 e' p1 kp vp ep pp h1 h2 h3
    have a1 := @WF.low _ h d1 k1 v1 e' p1 kp vp ep pp
    have a2 := hnd d1 k1 v1 e'
    grind
  · intro sm g i j m h1 h2 h3; have := @WF.inj _ h sm g i j m; grind
/-- A variable is set. -/
theorem WF.setVar (h : WF S) {c : Nat} {k : Int} {v : Bs} {e : Option Nat} (w : Bs) (hc : S c = some (.cell k v e none)) (hk : k ≠ 2) : WF (S.set c (.cell 1 w e none)) := by
  constructor
  · intro sm g i m h1 h2; have := @WF.scope _ h sm g i m; grind
  · intro m f k n h1 h2; have := @WF.nm _ h m f k n; grind
  · intro n c1 l h1; have := @WF.nc _ h n c1 l; grind
  · intro c1 k1 v1 e1 p1 h1; have := @WF.els _ h c1 k1 v1 e1 p1; have := @WF.els _ h c k v e1 none; grind
  · intro c1 k1 v1 e1 p1 h1; have := @WF.par _ h c1 k1 v1 e1 p1; grind
  · intro c1 k1 v1 e1 p1 f i d h1 h2 h3; have := @WF.kid _ h c1 k1 v1 e1 p1 f i d; have := @WF.kid _ h c k v e1 none f i d; grind
  · intro c1 k1 v1 e1 p1 c2 k2 v2 p2 h1 h2
    have := @WF.own _ h c1 k1 v1 e1 p1 c2 k2 v2 p2
    have := @WF.own _ h c k v e1 none c2 k2 v2 p2
    have := @WF.own _ h c1 k1 v1 e1 p1 c k v none
    grind
  · intro d k1 v1 e' p1 h1
    obtain ⟨k2, v2, e2, f2, i2, pp2, q1, q2, q3⟩ := @WF.kids _ h d k1 v1 e' p1 (by grind)
    by_cases hcc : p1 = c
    · subst hcc
      exact ⟨1, w, e2, f2, i2, none, by grind, by grind, q3⟩
    · exact ⟨k2, v2, e2, f2, i2, pp2, by grind, by grind, q3⟩
  · intro c1 k1 v1 e1 p1 h1; have := @WF.kinds _ h c1 k1 v1 e1 p1; grind
  · intro c1 k1 v1 e1 p1 h1; have := @WF.elk _ h c1 k1 v1 e1 p1; grind
  · intro d k1 v1 e' p1 kp vp ep pp h1 h2 h3
    have a1 := @WF.low _ h d k1 v1 e' p1 kp vp ep pp
    have a2 := @WF.low _ h d k1 v1 e' p1 k v e none
    grind
  · intro sm g i j m h1 h2 h3; have := @WF.inj _ h sm g i j m; grind
/-- An element is set: its variable is an array then. -/
theorem WF.setEl (h : WF S) {c q : Nat} {k kq kq' : Int} {v vq : Bs} {e eq : Option Nat} (w : Bs) (hc : S c = some (.cell k v e (some q))) (hq : S q = some (.cell kq vq eq none)) (hkq : kq ≠ 1) (hk' : kq' = 2) : WF ((S.set c (.cell 1 w e (some q))).set q (.cell kq' vq eq none)) := by
  have hcq : c ≠ q := by grind
  subst hk'
  constructor
  · intro sm g i m h1 h2; have := @WF.scope _ h sm g i m; grind
  · intro m f k n h1 h2; have := @WF.nm _ h m f k n; grind
  · intro n c1 l h1; have := @WF.nc _ h n c1 l; grind
  · intro c1 k1 v1 e1 p1 h1; have := @WF.els _ h c1 k1 v1 e1 p1; have := @WF.els _ h c k v e1 (some q); have := @WF.els _ h q kq vq e1 none; grind
  · intro c1 k1 v1 e1 p1 h1
    have a1 := @WF.par _ h c1 k1 v1 e1 p1
    have a2 := @WF.par _ h c k v e p1
    grind
  · intro c1 k1 v1 e1 p1 f i d h1 h2 h3
    have a1 := @WF.kid _ h c1 k1 v1 e1 p1 f i d
    have a2 := @WF.kid _ h c k v e1 (some q) f i d
    have a3 := @WF.kid _ h q kq vq e1 none f i d
    grind
  · intro c1 k1 v1 e1 p1 c2 k2 v2 p2 h1 h2
    have g1 : ∃ k1 v1, S c1 = some (.cell k1 v1 (some e1) p1) := by grind
    have g2 : ∃ k2 v2, S c2 = some (.cell k2 v2 (some e1) p2) := by grind
    obtain ⟨k3, v3, g1⟩ := g1
    obtain ⟨k4, v4, g2⟩ := g2
    exact @WF.own _ h c1 k3 v3 e1 p1 c2 k4 v4 p2 g1 g2
  · intro d k1 v1 e' p1 h1
    have g1 : ∃ k1 v1, S d = some (.cell k1 v1 e' (some p1)) := by grind
    obtain ⟨k3, v3, g1⟩ := g1
    obtain ⟨k2, v2, e2, f2, i2, pp2, q1, q2, q3⟩ := @WF.kids _ h d k3 v3 e' p1 g1
    by_cases hcc : p1 = c
    · subst hcc
      exact ⟨1, w, e2, f2, i2, some q, by grind, by grind, q3⟩
    · by_cases hcq' : p1 = q
      · subst hcq'
        exact ⟨2, vq, e2, f2, i2, none, by grind, by grind, q3⟩
      · exact ⟨k2, v2, e2, f2, i2, pp2, by grind, by grind, q3⟩
  · intro c1 k1 v1 e1 p1 h1; have := @WF.kinds _ h c1 k1 v1 e1 p1; grind
  · intro c1 k1 v1 e1 p1 h1; have := @WF.elk _ h c1 k1 v1 e1 p1; grind
  · intro d k1 v1 e' p1 kp vp ep pp h1 h2 h3
    have a1 := @WF.low _ h d k1 v1 e' p1 kp vp ep pp
    have a2 := @WF.par _ h d k1 v1 e' p1
    grind
  · intro sm g i j m h1 h2 h3; have := @WF.inj _ h sm g i j m; grind
end
end Go.Proofs.YtcaifihdbcjakaaGreat

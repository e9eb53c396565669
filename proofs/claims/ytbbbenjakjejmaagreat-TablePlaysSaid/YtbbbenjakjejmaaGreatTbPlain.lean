/- Tables of commands in plain Lean: what a table is, and what is done to it. -/
import Derived.Test.YtbbbenjakjejmaaGreatPlain
namespace Go.Proofs.YtbbbenjakjejmaaGreat
set_option linter.unusedVariables false
set_option linter.unusedSimpArgs false

/-- A command: its name, whether that is hidden, what it stands for (0: nothing), what stands for it. -/
structure Cm where
  name : Bs
  hid : Bool
  org : Nat
  imp : List Nat
/-- A table. -/
structure TS where
  last : Nat
  epoch : Nat
  cm : Nat → Option Cm
  nm : Bool → Bs → Option Nat
def newT : TS := ⟨0, 0, fun _ => none, fun _ _ => none⟩
/-- A sound table. -/
structure WF (S : TS) : Prop where
  names : ∀ h k n, S.nm h k = some n ↔ ∃ c, S.cm n = some c ∧ c.name = k ∧ c.hid = h
  pos : ∀ n c, S.cm n = some c → 1 ≤ n ∧ n ≤ S.last
  org : ∀ n c, S.cm n = some c → c.org ≠ 0 → ∃ p, S.cm c.org = some p ∧ n ∈ p.imp ∧ c.org < n
  imp : ∀ n c, S.cm n = some c → ∀ i ∈ c.imp, ∃ d, S.cm i = some d ∧ d.org = n
  once : ∀ n c, S.cm n = some c → c.imp.Nodup
  len : ∀ n c, S.cm n = some c → c.name.length ≤ 100000
theorem wf_new : WF newT := ⟨fun h k n => ⟨(fun e => by cases e), fun ⟨c, e, _⟩ => by cases e⟩, (fun n c e => by cases e), (fun n c e => by cases e), (fun n c e => by cases e), (fun n c e => by cases e), (fun n c e => by cases e)⟩
theorem wf_last {S : TS} (h : WF S) {l : Nat} (hl : S.last ≤ l) : WF { S with last := l } :=
  ⟨h.names, fun n c hc => ⟨(h.pos n c hc).1, Nat.le_trans (h.pos n c hc).2 hl⟩, h.org, h.imp, h.once, h.len⟩
theorem wf_epoch {S : TS} (h : WF S) (e : Nat) : WF { S with epoch := e } := ⟨h.names, h.pos, h.org, h.imp, h.once, h.len⟩
def dropI (n : Nat) (c : Cm) : Cm := { c with imp := c.imp.filter (fun i => !(i == n)) }
theorem dropI_self {n : Nat} {c : Cm} (h : n ∉ c.imp) : dropI n c = c := by
  unfold dropI
  have : c.imp.filter (fun i => !(i == n)) = c.imp := List.filter_eq_self.2 (fun i hi => by
    have : i ≠ n := fun e => h (e ▸ hi)
    simp [this])
  rw [this]
/-- The command n is away, with the commands of L, n among them. -/
structure Gone (S : TS) (n : Nat) (L : List Nat) (S' : TS) : Prop where
  nodup : L.Nodup
  top : n ∈ L
  sub : ∀ k ∈ L, k = n ∨ ∃ d, S.cm k = some d ∧ d.org ∈ L
  was : ∀ k ∈ L, ∃ d, S.cm k = some d
  ge : ∀ k ∈ L, n ≤ k
  last : S'.last = S.last
  epoch : S'.epoch = S.epoch
  cm : ∀ k, S'.cm k = if k ∈ L then none else (S.cm k).map (dropI n)
  nm : ∀ h k, S'.nm h k = (S.nm h k).bind fun j => if j ∈ L then none else some j
  wf : WF S'
/-- Of the command n, being c, those in L are away already; the rest of its imports is left. -/
structure Part (S : TS) (n : Nat) (c : Cm) (L : List Nat) (S' : TS) (rest : List Nat) : Prop where
  nodup : L.Nodup
  sub : ∀ k ∈ L, ∃ d, S.cm k = some d ∧ (d.org = n ∨ d.org ∈ L)
  gt : ∀ k ∈ L, n < k
  last : S'.last = S.last
  epoch : S'.epoch = S.epoch
  cm : ∀ k, S'.cm k = if k ∈ L then none else if k = n then some { c with imp := rest } else S.cm k
  nm : ∀ h k, S'.nm h k = (S.nm h k).bind fun j => if j ∈ L then none else some j
  wf : WF S'
theorem part_start {S : TS} {n : Nat} {c : Cm} (h : WF S) (hc : S.cm n = some c) : Part S n c [] S c.imp :=
  ⟨List.nodup_nil, (fun k hk => by cases hk), (fun k hk => by cases hk), rfl, rfl, fun k => by
    by_cases e : k = n
    · subst e; simp [hc]
    · simp [e], fun hd k => by cases S.nm hd k <;> rfl, h⟩
theorem Part.at_ {S S' : TS} {n : Nat} {c : Cm} {L rest : List Nat} (h : Part S n c L S' rest) : S'.cm n = some { c with imp := rest } := by
  rw [h.cm, if_neg (fun hn => by have := h.gt n hn; omega), if_pos rfl]
theorem Part.head {S S' : TS} {n ch : Nat} {c : Cm} {L rest : List Nat} (h : Part S n c L S' (ch :: rest)) : ∃ d, S'.cm ch = some d ∧ d.org = n ∧ n < ch ∧ S.cm ch = some d := by
  obtain ⟨d, hd, ho⟩ := h.wf.imp n _ h.at_ ch (by simp)
  have hn := (h.wf.pos n _ h.at_).1
  obtain ⟨p, _, _, hlt⟩ := h.wf.org ch d hd (by omega)
  refine ⟨d, hd, ho, by omega, ?_⟩
  have := h.cm ch
  rw [hd] at this
  split at this
  · cases this
  · rw [if_neg (by omega)] at this
    exact this.symm
theorem Part.step {S S1 S2 : TS} {n ch : Nat} {c : Cm} {L Lc rest : List Nat} (h : Part S n c L S1 (ch :: rest)) (g : Gone S1 ch Lc S2) : Part S n c (L ++ Lc) S2 rest := by
  obtain ⟨dch, hch, hcho, hlt, _⟩ := h.head
  have hdis : ∀ k ∈ Lc, k ∉ L := fun k hk hL => by
    obtain ⟨d, hd⟩ := g.was k hk
    rw [h.cm, if_pos hL] at hd
    cases hd
  have hgt : ∀ k ∈ Lc, n < k := fun k hk => by have := g.ge k hk; omega
  have hwas : ∀ k ∈ Lc, ∀ d, S1.cm k = some d → S.cm k = some d := fun k hk d hd => by
    have h1 := hgt k hk
    rw [h.cm, if_neg (hdis k hk), if_neg (by omega)] at hd
    exact hd
  have hnd := h.wf.once n _ h.at_
  simp only [List.nodup_cons] at hnd
  refine ⟨?_, ?_, ?_, g.last.trans h.last, g.epoch.trans h.epoch, ?_, ?_, g.wf⟩
  · rw [List.nodup_append]
    exact ⟨h.nodup, g.nodup, fun a ha b hb e => hdis b hb (e ▸ ha)⟩
  · intro k hk
    rcases List.mem_append.1 hk with hk | hk
    · obtain ⟨d, hd, ho⟩ := h.sub k hk
      exact ⟨d, hd, ho.imp id (fun h => List.mem_append.2 (.inl h))⟩
    · rcases g.sub k hk with rfl | ⟨d, hd, ho⟩
      · exact ⟨dch, hwas _ hk _ hch, .inl hcho⟩
      · exact ⟨d, hwas _ hk _ hd, .inr (List.mem_append.2 (.inr ho))⟩
  · intro k hk
    rcases List.mem_append.1 hk with hk | hk
    · exact h.gt k hk
    · exact hgt k hk
  · intro k
    rw [g.cm, h.cm]
    by_cases h1 : k ∈ Lc
    · simp [h1]
    · by_cases h2 : k ∈ L
      · simp [h1, h2]
      · have h12 : k ∉ L ++ Lc := by simp [h1, h2]
        rw [if_neg h1, if_neg h2, if_neg h12]
        by_cases h3 : k = n
        · rw [if_pos h3, if_pos h3]
          have : (ch :: rest).filter (fun i => !(i == ch)) = rest := by
            rw [List.filter_cons]
            simp only [beq_self_eq_true, Bool.not_true, Bool.false_eq_true, if_false]
            exact List.filter_eq_self.2 (fun i hi => by
              have : i ≠ ch := fun e => hnd.1 (e ▸ hi)
              simp [this])
          simp only [Option.map_some, dropI, this]
        · rw [if_neg h3, if_neg h3]
          cases hk : S.cm k with
          | none => rfl
          | some d =>
            have h4 : S1.cm k = some d := by rw [h.cm, if_neg h2, if_neg h3]; exact hk
            rw [Option.map_some, dropI_self (fun hi => by
              obtain ⟨d', hd', ho'⟩ := h.wf.imp k d h4 ch hi
              rw [hch] at hd'
              cases hd'
              exact h3 (ho'.symm.trans hcho))]
  · intro hd k
    rw [g.nm, h.nm]
    cases S.nm hd k with
    | none => rfl
    | some j =>
      simp only [Option.bind_some]
      by_cases h2 : j ∈ L
      · simp [h2]
      · by_cases h1 : j ∈ Lc
        · simp [h1, h2]
        · simp [h1, h2]
/-- The last step of 'take': the command itself goes. -/
def delT (S : TS) (n : Nat) (c : Cm) : TS :=
  { S with cm := fun k => if k = n then none else (S.cm k).map (dropI n), nm := fun h k => if h = c.hid ∧ k = c.name then none else S.nm h k }
theorem wf_delT {S : TS} {n : Nat} {c : Cm} (h : WF S) (hc : S.cm n = some c) (hi : c.imp = []) : WF (delT S n c) := by
  have hat : ∀ k d, (delT S n c).cm k = some d → k ≠ n ∧ ∃ d0, S.cm k = some d0 ∧ d = dropI n d0 := fun k d hd => by
    unfold delT at hd
    simp only at hd
    split at hd
    · cases hd
    · rename_i hk
      cases h0 : S.cm k with
      | none => rw [h0] at hd; cases hd
      | some d0 => rw [h0] at hd; exact ⟨hk, d0, rfl, by cases hd; rfl⟩
  have hto : ∀ k d0, k ≠ n → S.cm k = some d0 → (delT S n c).cm k = some (dropI n d0) := fun k d0 hk h0 => by
    unfold delT
    simp only [if_neg hk, h0, Option.map_some]
  have hnc : S.nm c.hid c.name = some n := (h.names _ _ _).2 ⟨c, hc, rfl, rfl⟩
  refine ⟨fun hd k j => ?_, fun k d hd => ?_, fun k d hd ho => ?_, fun k d hd i hi' => ?_, fun k d hd => ?_, fun k d hd => ?_⟩
  · show (if hd = c.hid ∧ k = c.name then none else S.nm hd k) = some j ↔ _
    by_cases e : hd = c.hid ∧ k = c.name
    · rw [if_pos e]
      obtain ⟨rfl, rfl⟩ := e
      refine ⟨(fun e => by cases e), fun ⟨d, hd, h1, h2⟩ => ?_⟩
      obtain ⟨hne, d0, h0, rfl⟩ := hat j d hd
      have := (h.names c.hid c.name j).2 ⟨d0, h0, h1, h2⟩
      rw [hnc] at this
      cases this
      exact absurd rfl hne
    · rw [if_neg e, h.names]
      constructor
      · rintro ⟨d, h0, rfl, rfl⟩
        refine ⟨_, hto j d (fun ej => ?_) h0, rfl, rfl⟩
        subst ej
        rw [hc] at h0
        cases h0
        exact e ⟨rfl, rfl⟩
      · rintro ⟨d, hd, rfl, rfl⟩
        obtain ⟨hne, d0, h0, rfl⟩ := hat j d hd
        exact ⟨d0, h0, rfl, rfl⟩
  · obtain ⟨_, d0, h0, _⟩ := hat k d hd
    exact h.pos k d0 h0
  · obtain ⟨hne, d0, h0, rfl⟩ := hat k d hd
    obtain ⟨p, hp, hm, hlt⟩ := h.org k d0 h0 ho
    refine ⟨_, hto _ p (fun e => ?_) hp, ?_, hlt⟩
    · rw [show (dropI n d0).org = d0.org from rfl] at *
      rw [e, hc] at hp
      cases hp
      rw [hi] at hm
      cases hm
    · exact List.mem_filter.2 ⟨hm, by simp [hne]⟩
  · obtain ⟨hne, d0, h0, rfl⟩ := hat k d hd
    obtain ⟨hm, hin⟩ := List.mem_filter.1 hi'
    obtain ⟨e, he, ho⟩ := h.imp k d0 h0 i hm
    exact ⟨_, hto i e (by simpa using hin) he, ho⟩
  · obtain ⟨hne, d0, h0, rfl⟩ := hat k d hd
    exact (h.once k d0 h0).filter _
  · obtain ⟨hne, d0, h0, rfl⟩ := hat k d hd
    exact h.len k d0 h0
theorem Part.done {S S1 : TS} {n : Nat} {c : Cm} {L : List Nat} (hw : WF S) (hc : S.cm n = some c) (h : Part S n c L S1 []) : Gone S n (n :: L) (delT S1 n { c with imp := [] }) := by
  have hnL : n ∉ L := fun hn => by have := h.gt n hn; omega
  refine ⟨by rw [List.nodup_cons]; exact ⟨hnL, h.nodup⟩, by simp, fun k hk => ?_, fun k hk => ?_, fun k hk => ?_, h.last, h.epoch, fun k => ?_, fun hd k => ?_, wf_delT h.wf h.at_ rfl⟩
  · rcases List.mem_cons.1 hk with rfl | hk
    · exact .inl rfl
    · obtain ⟨d, hd, ho⟩ := h.sub k hk
      refine .inr ⟨d, hd, ?_⟩
      rcases ho with ho | ho
      · rw [ho]; simp
      · exact List.mem_cons.2 (.inr ho)
  · rcases List.mem_cons.1 hk with rfl | hk
    · exact ⟨c, hc⟩
    · obtain ⟨d, hd, _⟩ := h.sub k hk
      exact ⟨d, hd⟩
  · rcases List.mem_cons.1 hk with rfl | hk
    · exact Nat.le_refl _
    · exact Nat.le_of_lt (h.gt k hk)
  · show (if k = n then none else (S1.cm k).map (dropI n)) = _
    by_cases h1 : k = n
    · subst h1; simp
    · rw [if_neg h1, h.cm]
      by_cases h2 : k ∈ L
      · simp [h2]
      · have h12 : k ∉ n :: L := by simp [h1, h2]
        rw [if_neg h2, if_neg h1, if_neg h12]
  · show (if hd = c.hid ∧ k = c.name then none else S1.nm hd k) = _
    have hnc : S.nm c.hid c.name = some n := (hw.names _ _ _).2 ⟨c, hc, rfl, rfl⟩
    by_cases e : hd = c.hid ∧ k = c.name
    · obtain ⟨rfl, rfl⟩ := e
      rw [if_pos ⟨rfl, rfl⟩, hnc]
      simp
    · rw [if_neg e, h.nm]
      cases hj : S.nm hd k with
      | none => rfl
      | some j =>
        have hjn : j ≠ n := fun ej => by
          subst ej
          obtain ⟨d, h0, h1, h2⟩ := (hw.names _ _ _).1 hj
          rw [hc] at h0
          cases h0
          exact e ⟨h2.symm, h1.symm⟩
        simp [hjn]
/-- A command made. -/
def addT (S : TS) (name : Bs) (org : Nat) : TS :=
  ⟨S.last + 1, S.epoch + 1, fun k => if k = S.last + 1 then some ⟨name, false, org, []⟩ else (S.cm k).map fun d => if k = org then { d with imp := d.imp ++ [S.last + 1] } else d, fun h k => if h = false ∧ k = name then some (S.last + 1) else S.nm h k⟩
theorem wf_addT {S : TS} {name : Bs} {org : Nat} (h : WF S) (hl : name.length ≤ 100000) (hn : S.nm false name = none) (ho : org = 0 ∨ ∃ p, S.cm org = some p) : WF (addT S name org) := by
  have hnew : (addT S name org).cm (S.last + 1) = some ⟨name, false, org, []⟩ := by simp [addT]
  have hold : S.cm (S.last + 1) = none := by
    cases e : S.cm (S.last + 1) with
    | none => rfl
    | some d => have := h.pos _ d e; omega
  have hat : ∀ k d, (addT S name org).cm k = some d → (k = S.last + 1 ∧ d = ⟨name, false, org, []⟩) ∨ (k ≠ S.last + 1 ∧ ∃ d0, S.cm k = some d0 ∧ d = if k = org then { d0 with imp := d0.imp ++ [S.last + 1] } else d0) := fun k d hd => by
    unfold addT at hd
    simp only at hd
    split at hd
    · rename_i hk; cases hd; exact .inl ⟨hk, rfl⟩
    · rename_i hk
      cases h0 : S.cm k with
      | none => rw [h0] at hd; cases hd
      | some d0 => rw [h0] at hd; exact .inr ⟨hk, d0, rfl, by cases hd; rfl⟩
  have hto : ∀ k d0, S.cm k = some d0 → (addT S name org).cm k = some (if k = org then { d0 with imp := d0.imp ++ [S.last + 1] } else d0) := fun k d0 h0 => by
    have hk : k ≠ S.last + 1 := fun e => by rw [e, hold] at h0; cases h0
    unfold addT
    simp only [if_neg hk, h0, Option.map_some]
  refine ⟨fun hd k j => ?_, fun k d hd => ?_, fun k d hd ho' => ?_, fun k d hd i hi' => ?_, fun k d hd => ?_, fun k d hd => ?_⟩
  · show (if hd = false ∧ k = name then some (S.last + 1) else S.nm hd k) = some j ↔ _
    by_cases e : hd = false ∧ k = name
    · rw [if_pos e]
      obtain ⟨rfl, rfl⟩ := e
      constructor
      · intro e; cases e; exact ⟨_, hnew, rfl, rfl⟩
      · rintro ⟨d, hd, h1, h2⟩
        rcases hat j d hd with ⟨rfl, _⟩ | ⟨_, d0, h0, rfl⟩
        · rfl
        · have h3 : d0.name = k ∧ d0.hid = false := by
            split at h1 <;> split at h2 <;> exact ⟨h1, h2⟩
          have := (h.names false k j).2 ⟨d0, h0, h3⟩
          rw [hn] at this
          cases this
    · rw [if_neg e, h.names]
      constructor
      · rintro ⟨d, h0, rfl, rfl⟩
        exact ⟨_, hto j d h0, by split <;> rfl, by split <;> rfl⟩
      · rintro ⟨d, hd, h1, h2⟩
        rcases hat j d hd with ⟨rfl, rfl⟩ | ⟨_, d0, h0, rfl⟩
        · exact absurd ⟨h2.symm, h1.symm⟩ e
        · refine ⟨d0, h0, ?_, ?_⟩
          · rw [← h1]; split <;> rfl
          · rw [← h2]; split <;> rfl
  · rcases hat k d hd with ⟨rfl, _⟩ | ⟨_, d0, h0, _⟩
    · exact ⟨by omega, Nat.le_refl _⟩
    · have := h.pos k d0 h0
      exact ⟨this.1, Nat.le_succ_of_le this.2⟩
  · rcases hat k d hd with ⟨rfl, rfl⟩ | ⟨_, d0, h0, rfl⟩
    · rcases ho with rfl | ⟨p, hp⟩
      · exact absurd rfl ho'
      · refine ⟨_, hto org p hp, by rw [if_pos rfl]; simp, ?_⟩
        have := h.pos org p hp
        show org < S.last + 1
        omega
    · have e1 : (if k = org then { d0 with imp := d0.imp ++ [S.last + 1] } else d0).org = d0.org := by split <;> rfl
      rw [e1] at ho' ⊢
      obtain ⟨p, hp, hm, hlt⟩ := h.org k d0 h0 ho'
      exact ⟨_, hto _ p hp, by split <;> simp [hm], hlt⟩
  · rcases hat k d hd with ⟨rfl, rfl⟩ | ⟨_, d0, h0, rfl⟩
    · cases hi'
    · by_cases e : k = org
      · rw [if_pos e] at hi'
        rcases List.mem_append.1 hi' with hm | hm
        · obtain ⟨d, hd, ho⟩ := h.imp k d0 h0 i hm
          exact ⟨_, hto i d hd, by split <;> exact ho⟩
        · rw [List.mem_singleton] at hm
          subst hm
          exact ⟨_, hnew, e.symm⟩
      · rw [if_neg e] at hi'
        obtain ⟨d, hd, ho⟩ := h.imp k d0 h0 i hi'
        exact ⟨_, hto i d hd, by split <;> exact ho⟩
  · rcases hat k d hd with ⟨rfl, rfl⟩ | ⟨_, d0, h0, rfl⟩
    · exact List.nodup_nil
    · by_cases e : k = org
      · rw [if_pos e]
        rw [List.nodup_append]
        refine ⟨h.once k d0 h0, by simp, fun a ha b hb e => ?_⟩
        rw [List.mem_singleton] at hb
        subst hb; subst e
        obtain ⟨d, hd, _⟩ := h.imp k d0 h0 _ ha
        rw [hold] at hd
        cases hd
      · rw [if_neg e]
        exact h.once k d0 h0
  · rcases hat k d hd with ⟨rfl, rfl⟩ | ⟨_, d0, h0, rfl⟩
    · exact hl
    · have := h.len k d0 h0
      split <;> exact this
/-- A command named anew. -/
def moveT (S : TS) (n : Nat) (was : Bool) (old : Bs) (now : Bool) (new : Bs) : TS :=
  { S with epoch := S.epoch + 1, cm := fun k => (S.cm k).map fun d => if k = n then { d with name := new, hid := now } else d, nm := fun h k => if h = now ∧ k = new then some n else if h = was ∧ k = old then none else S.nm h k }
theorem wf_moveT {S : TS} {n : Nat} {was now : Bool} {old new : Bs} (h : WF S) (hl : new.length ≤ 100000) (ho : S.nm was old = some n) (hn : S.nm now new = none) : WF (moveT S n was old now new) := by
  obtain ⟨c, hc, rfl, rfl⟩ := (h.names _ _ _).1 ho
  have hat : ∀ k d, (moveT S n c.hid c.name now new).cm k = some d → ∃ d0, S.cm k = some d0 ∧ d = if k = n then { d0 with name := new, hid := now } else d0 := fun k d hd => by
    unfold moveT at hd
    simp only at hd
    cases h0 : S.cm k with
    | none => rw [h0] at hd; cases hd
    | some d0 => rw [h0] at hd; exact ⟨d0, rfl, by cases hd; rfl⟩
  have hto : ∀ k d0, S.cm k = some d0 → (moveT S n c.hid c.name now new).cm k = some (if k = n then { d0 with name := new, hid := now } else d0) := fun k d0 h0 => by
    unfold moveT
    simp only [h0, Option.map_some]
  refine ⟨fun hd k j => ?_, fun k d hd => ?_, fun k d hd ho' => ?_, fun k d hd i hi' => ?_, fun k d hd => ?_, fun k d hd => ?_⟩
  · show (if hd = now ∧ k = new then some n else if hd = c.hid ∧ k = c.name then none else S.nm hd k) = some j ↔ _
    by_cases e : hd = now ∧ k = new
    · rw [if_pos e]
      obtain ⟨rfl, rfl⟩ := e
      constructor
      · intro e; cases e; exact ⟨_, hto n c hc, by rw [if_pos rfl], by rw [if_pos rfl]⟩
      · rintro ⟨d, hd', h1, h2⟩
        obtain ⟨d0, h0, rfl⟩ := hat j d hd'
        by_cases ej : j = n
        · rw [ej]
        · rw [if_neg ej] at h1 h2
          have := (h.names _ _ _).2 ⟨d0, h0, h1, h2⟩
          rw [hn] at this
          cases this
    · rw [if_neg e]
      by_cases e2 : hd = c.hid ∧ k = c.name
      · rw [if_pos e2]
        obtain ⟨rfl, rfl⟩ := e2
        refine ⟨(fun e => by cases e), fun ⟨d, hd', h1, h2⟩ => ?_⟩
        obtain ⟨d0, h0, rfl⟩ := hat j d hd'
        by_cases ej : j = n
        · rw [if_pos ej] at h1 h2
          exact absurd ⟨h2.symm, h1.symm⟩ e
        · rw [if_neg ej] at h1 h2
          have := (h.names _ _ _).2 ⟨d0, h0, h1, h2⟩
          rw [ho] at this
          cases this
          exact absurd rfl ej
      · rw [if_neg e2, h.names]
        constructor
        · rintro ⟨d, h0, rfl, rfl⟩
          have ej : j ≠ n := fun ej => by
            subst ej
            rw [hc] at h0
            cases h0
            exact e2 ⟨rfl, rfl⟩
          exact ⟨_, hto j d h0, by rw [if_neg ej], by rw [if_neg ej]⟩
        · rintro ⟨d, hd', h1, h2⟩
          obtain ⟨d0, h0, rfl⟩ := hat j d hd'
          by_cases ej : j = n
          · rw [if_pos ej] at h1 h2
            exact absurd ⟨h2.symm, h1.symm⟩ e
          · rw [if_neg ej] at h1 h2
            exact ⟨d0, h0, h1, h2⟩
  · obtain ⟨d0, h0, rfl⟩ := hat k d hd
    exact h.pos k d0 h0
  · obtain ⟨d0, h0, rfl⟩ := hat k d hd
    have e1 : (if k = n then { d0 with name := new, hid := now } else d0).org = d0.org := by split <;> rfl
    rw [e1] at ho' ⊢
    obtain ⟨p, hp, hm, hlt⟩ := h.org k d0 h0 ho'
    exact ⟨_, hto _ p hp, by split <;> exact hm, hlt⟩
  · obtain ⟨d0, h0, rfl⟩ := hat k d hd
    have e1 : (if k = n then { d0 with name := new, hid := now } else d0).imp = d0.imp := by split <;> rfl
    rw [e1] at hi'
    obtain ⟨d, hd, ho⟩ := h.imp k d0 h0 i hi'
    exact ⟨_, hto i d hd, by split <;> exact ho⟩
  · obtain ⟨d0, h0, rfl⟩ := hat k d hd
    have e1 : (if k = n then { d0 with name := new, hid := now } else d0).imp = d0.imp := by split <;> rfl
    rw [e1]
    exact h.once k d0 h0
  · obtain ⟨d0, h0, rfl⟩ := hat k d hd
    have := h.len k d0 h0
    split
    · exact hl
    · exact this
/-- What a command stands for, directly or not (itself too). -/
inductive Up (S : TS) : Nat → Nat → Prop
  | refl (n : Nat) : Up S n n
  | step {a b : Nat} {d : Cm} (h : S.cm a = some d) (h0 : d.org ≠ 0) (k : Up S d.org b) : Up S a b
theorem Gone.up {S S' : TS} {n : Nat} {L : List Nat} (hw : WF S) (g : Gone S n L S') : ∀ m k, k ≤ m → k ∈ L → Up S k n := by
  intro m
  induction m with
  | zero =>
    intro k hk hL
    obtain ⟨d, hd⟩ := g.was k hL
    have := hw.pos k d hd
    omega
  | succ m ih =>
    intro k hk hL
    rcases g.sub k hL with rfl | ⟨d, hd, ho⟩
    · exact .refl _
    · obtain ⟨e, he⟩ := g.was _ ho
      have h0 := (hw.pos _ e he).1
      obtain ⟨p, _, _, hlt⟩ := hw.org k d hd (by omega)
      exact .step hd (by omega) (ih _ (by omega) ho)
theorem Gone.not_up {S S' : TS} {n k : Nat} {L : List Nat} (hw : WF S) (g : Gone S n L S') (h : ¬ Up S k n) : k ∉ L := fun hL => h (g.up hw k k (Nat.le_refl _) hL)
/-- How many commands there are. -/
def TS.keys (S : TS) : List Nat := (List.range (S.last + 1)).filter fun k => (S.cm k).isSome
def TS.cnt (S : TS) : Nat := S.keys.length
theorem TS.keys_nodup (S : TS) : S.keys.Nodup := List.nodup_range.filter _
theorem WF.mem_keys {S : TS} (h : WF S) (k : Nat) : k ∈ S.keys ↔ (S.cm k).isSome = true := by
  unfold TS.keys
  rw [List.mem_filter, List.mem_range]
  refine ⟨fun h => h.2, fun hk => ⟨?_, hk⟩⟩
  cases hc : S.cm k with
  | none => rw [hc] at hk; cases hk
  | some c => have := h.pos k c hc; omega
theorem split_len (p q : Nat → Bool) (l : List Nat) : (l.filter p).length = (l.filter fun k => p k && q k).length + (l.filter fun k => p k && !q k).length := by
  induction l with
  | nil => rfl
  | cons a l ih =>
    simp only [List.filter_cons]
    cases p a <;> cases q a <;> simp <;> omega
theorem cnt_split {S S' : TS} {L : List Nat} (hw : WF S) (hw' : WF S') (hn : L.Nodup) (hwas : ∀ k ∈ L, ∃ d, S.cm k = some d) (hcm : ∀ k, (S'.cm k).isSome = true ↔ k ∉ L ∧ (S.cm k).isSome = true) : S'.cnt + L.length = S.cnt := by
  have h1 : S'.keys.Perm (S.keys.filter fun k => !(L.contains k)) := by
    refine (List.perm_ext_iff_of_nodup S'.keys_nodup (S.keys_nodup.filter _)).2 fun k => ?_
    rw [hw'.mem_keys, List.mem_filter, hw.mem_keys, hcm]
    by_cases hk : k ∈ L
    · simp [hk]
    · simp [hk]
  have h2 : L.Perm (S.keys.filter fun k => L.contains k) := by
    refine (List.perm_ext_iff_of_nodup hn (S.keys_nodup.filter _)).2 fun k => ?_
    rw [List.mem_filter, hw.mem_keys]
    constructor
    · intro hk
      obtain ⟨d, hd⟩ := hwas k hk
      simp [hk, hd]
    · intro h
      simpa using h.2
  have h3 := split_len (fun _ => true) (fun k => L.contains k) S.keys
  simp only [Bool.true_and] at h3
  unfold TS.cnt
  have h6 := h1.length_eq
  have h7 := h2.length_eq
  have h4 : (S.keys.filter fun _ => true) = S.keys := List.filter_eq_self.2 (fun _ _ => rfl)
  rw [h4] at h3
  omega
theorem Gone.cnt {S S' : TS} {n : Nat} {L : List Nat} (hw : WF S) (g : Gone S n L S') : S'.cnt + L.length = S.cnt :=
  cnt_split hw g.wf g.nodup g.was fun k => by
    rw [g.cm]
    by_cases hk : k ∈ L
    · simp [hk]
    · simp [hk]
theorem Part.cnt {S S' : TS} {n : Nat} {c : Cm} {L rest : List Nat} (hw : WF S) (hc : S.cm n = some c) (h : Part S n c L S' rest) : S'.cnt + L.length = S.cnt :=
  cnt_split hw h.wf h.nodup (fun k hk => by obtain ⟨d, hd, _⟩ := h.sub k hk; exact ⟨d, hd⟩) fun k => by
    rw [h.cm]
    by_cases hk : k ∈ L
    · simp [hk]
    · by_cases e : k = n
      · subst e; simp [hk, hc]
      · simp [hk, e]
theorem cnt_addT {S : TS} {name : Bs} {org : Nat} (h : WF S) (hl : name.length ≤ 100000) (hn : S.nm false name = none) (ho : org = 0 ∨ ∃ p, S.cm org = some p) : (addT S name org).cnt = S.cnt + 1 := by
  have h1 : (addT S name org).keys.Perm ((S.last + 1) :: S.keys) := by
    have hold : S.last + 1 ∉ S.keys := by
      rw [h.mem_keys]
      intro hk
      cases hc : S.cm (S.last + 1) with
      | none => rw [hc] at hk; cases hk
      | some c => have := h.pos _ c hc; omega
    refine (List.perm_ext_iff_of_nodup (addT S name org).keys_nodup (List.nodup_cons.2 ⟨hold, S.keys_nodup⟩)).2 fun k => ?_
    rw [(wf_addT h hl hn ho).mem_keys, List.mem_cons, h.mem_keys]
    unfold addT
    by_cases hk : k = S.last + 1
    · simp [hk]
    · simp [hk]
  unfold TS.cnt
  rw [h1.length_eq]
  rfl
/-- What 'add' does: a command of that name goes first; G tells who went. -/
def AddR (S : TS) (name : Bs) (org : Nat) (S' : TS) (L : List Nat) : Prop :=
  (S.nm false name = none ∧ L = [] ∧ S' = addT S name org) ∨ ∃ n S1, S.nm false name = some n ∧ Gone S n L S1 ∧ S' = addT S1 name org
/-- What a new command may stand for. -/
def OrgOk (S : TS) (name : Bs) (org : Nat) : Prop := org = 0 ∨ ((∃ p, S.cm org = some p) ∧ ∀ n, S.nm false name = some n → ¬ Up S org n)
theorem Gone.none_nm {S S' : TS} {n : Nat} {L : List Nat} (g : Gone S n L S') {h : Bool} {k : Bs} (e : S.nm h k = some n) : S'.nm h k = none := by
  rw [g.nm, e]
  simp [g.top]
theorem Gone.org {S S' : TS} {n org : Nat} {L : List Nat} {name : Bs} (hw : WF S) (g : Gone S n L S') (hn : S.nm false name = some n) (ho : OrgOk S name org) : org = 0 ∨ ∃ p, S'.cm org = some p := by
  rcases ho with h | ⟨⟨p, hp⟩, hu⟩
  · exact .inl h
  · refine .inr ⟨dropI n p, ?_⟩
    rw [g.cm, if_neg (g.not_up hw (hu n hn)), hp]
    rfl
theorem OrgOk.some {S : TS} {name : Bs} {org : Nat} (ho : OrgOk S name org) : org = 0 ∨ ∃ p, S.cm org = some p := ho.imp id (fun h => h.1)
theorem addR_wf {S S' : TS} {name : Bs} {org : Nat} {L : List Nat} (hw : WF S) (hl : name.length ≤ 100000) (ho : OrgOk S name org) (h : AddR S name org S' L) : WF S' ∧ S'.last = S.last + 1 ∧ S'.epoch = S.epoch + 1 ∧ S'.cnt + L.length = S.cnt + 1 := by
  rcases h with ⟨hn, rfl, rfl⟩ | ⟨n, S1, hn, g, rfl⟩
  · exact ⟨wf_addT hw hl hn ho.some, rfl, rfl, by rw [cnt_addT hw hl hn ho.some]; rfl⟩
  · have h1 := g.none_nm hn
    have h2 := g.org hw hn ho
    refine ⟨wf_addT g.wf hl h1 h2, by show S1.last + 1 = _; rw [g.last], by show S1.epoch + 1 = _; rw [g.epoch], ?_⟩
    rw [cnt_addT g.wf hl h1 h2]
    have := g.cnt hw
    omega
theorem WF.imp_len {S : TS} (h : WF S) {n : Nat} {c : Cm} (hc : S.cm n = some c) : c.imp.length ≤ S.cnt := by
  have h1 : ∀ i ∈ c.imp, i ∈ S.keys := fun i hi => by
    obtain ⟨d, hd, _⟩ := h.imp n c hc i hi
    rw [h.mem_keys, hd]
    rfl
  have h2 : c.imp.Perm (S.keys.filter fun k => c.imp.contains k) := by
    refine (List.perm_ext_iff_of_nodup (h.once n c hc) (S.keys_nodup.filter _)).2 fun k => ?_
    rw [List.mem_filter]
    exact ⟨fun hk => ⟨h1 k hk, by simpa using hk⟩, fun hk => by simpa using hk.2⟩
  rw [h2.length_eq]
  exact List.length_filter_le _ _
theorem TS.cnt_le (S : TS) : S.cnt ≤ S.last + 1 := by
  unfold TS.cnt TS.keys
  have := List.length_filter_le (fun k => (S.cm k).isSome) (List.range (S.last + 1))
  simpa using this
end Go.Proofs.YtbbbenjakjejmaaGreat

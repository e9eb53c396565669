/- walk: whether a path leads through dictionaries. Set. put. Set. -/
import Derived.Test.YteojlmpipfajoaaGreatDoorBook10
import Derived.Laws.EntriesVeiled
namespace Go.Proofs.YteojlmpipfajoaaGreatDoor
set_option linter.unusedVariables false
set_option linter.unusedSimpArgs false
open Go.RowKit Go.MapKept Go.WideMaps

theorem split_mem : ∀ (n : Nat) (s : Bs), s.length ≤ n → ∀ l, splitL s = some l → ∀ x ∈ l, x.length ≤ s.length := by
  intro n
  induction n with
  | zero =>
    intro s h l hl
    obtain rfl : s = [] := List.length_eq_zero_iff.1 (by omega)
    rw [splitL_nil] at hl; cases hl; simp
  | succ n ih =>
    intro s h l hl
    cases s with
    | nil => rw [splitL_nil] at hl; cases hl; simp
    | cons c r =>
      simp only [List.length_cons] at h ⊢
      by_cases hw : isW c = true
      · rw [splitL_white hw] at hl
        intro x hx
        have := ih r (by omega) l hl x hx
        omega
      · have hw' : isW c = false := by simpa using hw
        rw [splitL_elem hw'] at hl
        cases he : elemC (c :: r) with
        | none => rw [he] at hl; cases hl
        | some q =>
          have h1 := elem_le (t := q.1) (k := q.2) he
          have h2 := elem_pos hw' (t := q.1) (k := q.2) he
          rw [he, Option.bind_some] at hl
          simp only [List.length_cons] at h1
          split at hl
          · cases hs : splitL ((c :: r).drop q.2) with
            | none => rw [hs] at hl; cases hl
            | some m =>
              rw [hs] at hl; cases hl
              intro x hx
              rcases List.mem_cons.1 hx with rfl | hx
              · omega
              · have := ih _ (by simp; omega) m hs x hx
                simp at this; omega
          · cases hl
theorem mem_setP {a : Prs} {k v : Bs} {p : Bs × Bs} (h : p ∈ setP a k v) : p ∈ a ∨ p = (k, v) := by
  induction a with
  | nil => simp [setP] at h; exact .inr h
  | cons q a ih =>
    rw [setP] at h
    split at h
    · rcases List.mem_cons.1 h with h | h
      · exact .inr h
      · exact .inl (List.mem_cons_of_mem _ h)
    · rcases List.mem_cons.1 h with h | h
      · exact .inl (by simp [h])
      · rcases ih h with h | h
        · exact .inl (List.mem_cons_of_mem _ h)
        · exact .inr h
theorem mem_addP {b : Prs} : ∀ {a : Prs} {p : Bs × Bs}, p ∈ addP a b → p ∈ a ∨ p ∈ b := by
  induction b with
  | nil => intro a p h; exact .inl h
  | cons q b ih =>
    intro a p h
    rw [add_cons] at h
    rcases ih h with h | h
    · rcases mem_setP h with h | h
      · exact .inl h
      · exact .inr (by simp [h])
    · exact .inr (List.mem_cons_of_mem _ h)
theorem mem_pairs : ∀ (n : Nat) (l : List Bs), l.length ≤ n → ∀ p ∈ pairsOf l, p.1 ∈ l ∧ p.2 ∈ l := by
  intro n
  induction n with
  | zero =>
    intro l h
    obtain rfl : l = [] := List.length_eq_zero_iff.1 (by omega)
    simp [pairsOf]
  | succ n ih =>
    intro l h p hp
    match l, h, hp with
    | [], _, hp => simp [pairsOf] at hp
    | [a], _, hp => simp [pairsOf] at hp
    | a :: b :: r, h, hp =>
      simp only [pairsOf, List.mem_cons] at hp
      rcases hp with rfl | hp
      · simp
      · have := ih r (by simp at h; omega) p hp
        exact ⟨List.mem_cons_of_mem _ (List.mem_cons_of_mem _ this.1), List.mem_cons_of_mem _ (List.mem_cons_of_mem _ this.2)⟩
theorem read_mem {s : Bs} {ps : Prs} (h : readC s = some ps) {p : Bs × Bs} (hp : p ∈ ps) : p.1.length ≤ s.length ∧ p.2.length ≤ s.length := by
  unfold readC at h
  cases hl : splitL s with
  | none => rw [hl] at h; cases h
  | some l =>
    rw [hl, Option.bind_some] at h
    split at h
    · cases h
      rcases mem_addP hp with h | h
      · cases h
      · have := mem_pairs l.length l (Nat.le_refl _) p h
        exact ⟨split_mem s.length s (Nat.le_refl _) l hl _ this.1, split_mem s.length s (Nat.le_refl _) l hl _ this.2⟩
    · cases h
/-- The value of a key; empty if there is none. -/
def valC (ps : Prs) (k : Bs) : Bs := (getP ps k).getD []
theorem val_len {s : Bs} {ps : Prs} (h : readC s = some ps) (k : Bs) : (valC ps k).length ≤ s.length := by
  unfold valC
  cases hg : getP ps k with
  | none => simp
  | some v => exact (read_mem h (get_mem hg)).2

/-- 'walk'. -/
def walkC : Bs → List Bs → Int
  | s, [] => match readC s with | none => 11 | some _ => 7
  | s, [k] => match readC s with | none => 11 | some _ => 0
  | s, k :: q :: r => match readC s with | none => 11 | some ps => walkC (valC ps k) (q :: r)
theorem TxtRow.first {w : World} {o : Option Addr} {c : Nat} {k : Bs} {r : List Bs} (h : TxtRow w (.slice o (k :: r).length c) (k :: r)) : ∃ b off, o = some ⟨b, off, none⟩ ∧ (k :: r).length ≤ c ∧ c ≤ maxLen ∧ b < w.heap.size ∧ w.cell? ⟨b, off, none⟩ = some (.string ⟨k.toArray⟩) ∧ TxtRow w (.slice (some ⟨b, off + 1, none⟩) r.length (c - 1)) r := by
  obtain ⟨_, h1, h2, h3⟩ := h.at_
  obtain ⟨b, off, rfl, hl, hc⟩ := h3 0 (by simp)
  refine ⟨b, off, rfl, h1, h2, hl, hc, _, _, rfl, by simp at h1; omega, by omega, fun i hi => ?_⟩
  obtain ⟨b', off', e, hl', hc'⟩ := h3 (i + 1) (by simp; omega)
  cases e
  refine ⟨b, off + 1, rfl, hl, ?_⟩
  rw [show off + 1 + i = off + (i + 1) by omega]
  simpa using hc'
set_option maxRecDepth 100000 in
set_option maxHeartbeats 1600000 in
theorem walk_any : ∀ (path : List Bs) (s : Bs) (v : Value) (w : World), s.length ≤ 19999 → (∀ k ∈ path, k.length ≤ 1000000) → TxtRow w v path →
    Calls Tryz.prog 41 #[.string ⟨s.toArray⟩, v] w fun e w' => e = .returned (.int .i64 (walkC s path)) ∧ Below w.heap.size w w' := by
  intro path
  induction path with
  | nil =>
    intro s v w hs _ ht
    have RD := read_any s hs w
    obtain ⟨o, c, rfl, _⟩ := ht
    cases hr : readC s with
    | none =>
      have HW : Hid (walkC s [] = 11) := by show _ = _; unfold walkC; rw [hr]
      rw [HW.out]
      have RD2 : Hid (Calls Tryz.prog 58 #[.string ⟨s.toArray⟩] w fun e w' => Below w.heap.size w w' ∧ e = .returned (.tuple #[.pointer none, .int .i64 11])) := RD.mono fun e w' ⟨h1, h2⟩ => ⟨h1, by
        rcases h2 with ⟨_, h'⟩ | ⟨_, _, _, h', _⟩
        · exact h'
        · rw [hr] at h'; cases h'⟩
      clear RD hr HW
      go_enter Tryz.func41, Tryz.ntmps41
      go_wp2_with (go_at_call 58; refine RD2.out.mono ?_; rintro e w1 ⟨hB1, rfl⟩; skip)
      go_ret
      exact ⟨rfl, hB1⟩
    | some ps =>
      have HW : Hid (walkC s [] = 7) := by show _ = _; unfold walkC; rw [hr]
      rw [HW.out]
      have RD2 : Hid (Calls Tryz.prog 58 #[.string ⟨s.toArray⟩] w fun e w' => Below w.heap.size w w' ∧ ∃ b, e = .returned (.tuple #[.pointer b, .int .i64 0])) := RD.mono fun e w' ⟨h1, h2⟩ => ⟨h1, by
        rcases h2 with ⟨h', _⟩ | ⟨b2, F2, ps', h', he, hb, hF⟩
        · rw [hr] at h'; cases h'
        · exact ⟨_, he⟩⟩
      clear RD hr HW
      go_enter Tryz.func41, Tryz.ntmps41
      go_wp2_with (go_at_call 58; refine RD2.out.mono ?_; rintro e w1 ⟨hB1, b, rfl⟩; skip)
      go_ret
      exact ⟨rfl, hB1⟩
  | cons k r ih =>
    intro s v w hs hkl ht
    have RD := read_any s hs w
    obtain ⟨o, c, rfl, _⟩ := id ht
    obtain ⟨cb, off, rfl, hcl, hcm, hbl, hc0, ht1⟩ := ht.first
    have hk := hkl k (by simp)
    unfold maxLen at hcm
    cases hr : readC s with
    | none =>
      have HW : Hid (walkC s (k :: r) = 11) := by show _ = _; cases r <;> (unfold walkC; rw [hr])
      rw [HW.out]
      have RD2 : Hid (Calls Tryz.prog 58 #[.string ⟨s.toArray⟩] w fun e w' => Below w.heap.size w w' ∧ e = .returned (.tuple #[.pointer none, .int .i64 11])) := RD.mono fun e w' ⟨h1, h2⟩ => ⟨h1, by
        rcases h2 with ⟨_, h'⟩ | ⟨_, _, _, h', _⟩
        · exact h'
        · rw [hr] at h'; cases h'⟩
      clear RD hr HW ih ht ht1 hc0
      go_enter Tryz.func41, Tryz.ntmps41
      go_wp2_with (go_at_call 58; refine RD2.out.mono ?_; rintro e w1 ⟨hB1, rfl⟩; skip)
      go_ret
      exact ⟨rfl, hB1⟩
    | some ps =>
      have RD2 : Hid (Calls Tryz.prog 58 #[.string ⟨s.toArray⟩] w fun e w' => Below w.heap.size w w' ∧ ∃ b F, e = .returned (.tuple #[.pointer (some ⟨b, 0, none⟩), .int .i64 0]) ∧ Bk w' b F ps) := RD.mono fun e w' ⟨h1, h2⟩ => ⟨h1, by
        rcases h2 with ⟨h', _⟩ | ⟨b2, F2, ps', h', he, hb, hF⟩
        · rw [hr] at h'; cases h'
        · rw [hr] at h'; cases h'; exact ⟨b2, F2, he, hb⟩⟩
      have GET : Hid (∀ W b F, Bk W b F ps → Calls Tryz.prog 39 #[.pointer (some ⟨b, 0, none⟩), .string ⟨k.toArray⟩] W fun e w' => e = .returned (.tuple #[.string ⟨(valC ps k).toArray⟩, .bool (getP ps k).isSome]) ∧ w' = W) := fun W b F h => get_any h k (by unfold maxLen; omega)
      cases r with
      | nil =>
        have HW : Hid (walkC s [k] = 0) := by show _ = _; unfold walkC; rw [hr]
        rw [HW.out]
        clear RD hr HW ih ht ht1 hkl
        go_enter Tryz.func41, Tryz.ntmps41
        go_wp2_with (first | (go_at_call 58; refine RD2.out.mono ?_; rintro e w1 ⟨hB1, b, F, rfl, hb⟩; have hc1 := (hB1.cell (p := ⟨cb, off, none⟩) hbl).trans hc0; have H1 := Lib.hid (And.intro hB1 hb); clear hB1 hb hc0) | (go_at_call 39; refine (GET.out _ _ _ H1.out.2).mono ?_; rintro e w2 ⟨rfl, rfl⟩))
        go_ret
        exact ⟨rfl, H1.out.1⟩
      | cons q r =>
        have HW : Hid (walkC s (k :: q :: r) = walkC (valC ps k) (q :: r)) := by show _ = _; rw [walkC, hr]
        rw [HW.out]
        have hvl := val_len hr k
        have IH : Hid (∀ W v, Below w.heap.size w W → TxtRow W v (q :: r) → Calls Tryz.prog 41 #[.string ⟨(valC ps k).toArray⟩, v] W fun e w' => e = .returned (.int .i64 (walkC (valC ps k) (q :: r))) ∧ Below W.heap.size W w') := fun W v hW htv => ih (valC ps k) v W (by omega) (fun x hx => hkl x (List.mem_cons_of_mem _ hx)) htv
        have HT1 := Lib.hid ht1
        have hnl : 2 ≤ (k :: q :: r).length := by simp
        obtain ⟨n, hn⟩ : ∃ n : Nat, (k :: q :: r).length = n + 2 := ⟨r.length, by simp⟩
        have hn' : (q :: r).length = n + 1 := by simp at hn ⊢; omega
        rw [hn'] at HT1
        rw [hn] at hcl ⊢
        clear RD hr HW ih ht ht1 hkl hnl hn hn'
        generalize walkC (valC ps k) (q :: r) = res at *
        generalize valC ps k = vv at *
        go_enter Tryz.func41, Tryz.ntmps41
        go_wp2_with (first | (go_at_call 58; refine RD2.out.mono ?_; rintro e w1 ⟨hB1, b, F, rfl, hb⟩; have hc1 := (hB1.cell (p := ⟨cb, off, none⟩) hbl).trans hc0; have H1 := Lib.hid (And.intro hB1 hb); clear hB1 hb hc0) | (go_at_call 39; refine (GET.out _ _ _ H1.out.2).mono ?_; rintro e w2 ⟨rfl, rfl⟩) | (go_at_call 41; refine (IH.out _ _ H1.out.1 (HT1.out.below H1.out.1)).mono ?_; rintro e w3 ⟨rfl, hB3⟩; have H3 := Lib.hid hB3; clear hB3))
        go_ret
        exact ⟨rfl, H1.out.1.trans (H3.out.mono H1.out.1.size)⟩
end Go.Proofs.YteojlmpipfajoaaGreatDoor
namespace Go.Proofs.YteojlmpipfajoaaGreatDoor
set_option linter.unusedVariables false
set_option linter.unusedSimpArgs false
open Go.RowKit Go.MapKept Go.WideMaps

/-- The text of 's' with a value put at a path. -/
def putC : List Bs → Bs → Bs → Bs × Int
  | [], _, value => (value, 0)
  | k :: r, s, value => chgE s (fun ps => (putC r (valC ps k) value).2) (fun ps => setP ps k (putC r (valC ps k) value).1)
/-- 'Set'. -/
def setC (s : Bs) (path : List Bs) (value : Bs) : Bs × Int := if walkC s path = 0 then putC path s value else ([], walkC s path)
/-- The two boxes of a 'Set': the value, and 'put' itself. -/
structure PutBx (W : World) (vb pb : Nat) (value : Bs) : Prop where
  v : W.cell? ⟨vb, 0, none⟩ = some (.string ⟨value.toArray⟩)
  p : W.cell? ⟨pb, 0, none⟩ = some (.func (.func 36) #[] #[.pointer (some ⟨vb, 0, none⟩), .pointer (some ⟨pb, 0, none⟩)])
  vl : vb < W.heap.size
  pl : pb < W.heap.size
theorem PutBx.below {W W' : World} {vb pb : Nat} {value : Bs} (h : PutBx W vb pb value) (hb : Below W.heap.size W W') : PutBx W' vb pb value :=
  ⟨(hb.cell (p := ⟨vb, 0, none⟩) h.vl).trans h.v, (hb.cell (p := ⟨pb, 0, none⟩) h.pl).trans h.p, Nat.lt_of_lt_of_le h.vl hb.size, Nat.lt_of_lt_of_le h.pl hb.size⟩
set_option maxRecDepth 100000 in
set_option maxHeartbeats 400000 in
/-- The function that 'put' hands to 'changed', put itself being known for the rest of the path. -/
theorem put_in1 {value k : Bs} {vb pb xb cb off : Nat} {w W : World} {ps : Prs} {b : Nat} {F : List Nat} (hM : MaxIs w)
    (IH : ∀ s v W, s.length ≤ 19999 → Below w.heap.size w W → TxtRow W v [] → Calls Tryz.prog 36 #[.string ⟨s.toArray⟩, v, .pointer (some ⟨vb, 0, none⟩), .pointer (some ⟨pb, 0, none⟩)] W fun e w' => e = .returned (.tuple #[.string ⟨(putC [] s value).1.toArray⟩, .int .i64 (putC [] s value).2]) ∧ Below W.heap.size W w')
    (hk : k.length ≤ 1000000) (hbx : PutBx w vb pb value) (hps : ps.length ≤ 100000) (hvl : (valC ps k).length ≤ 19999)
    (hx : W.cell? ⟨xb, 0, none⟩ = some (.slice (some ⟨cb, off, none⟩) 1 1)) (hxl : xb < W.heap.size) (hcbl : cb < w.heap.size) (hck : w.cell? ⟨cb, off, none⟩ = some (.string ⟨k.toArray⟩))
    (hW : Below w.heap.size w W) (hb : Bk W b F ps) (hF : ∀ d ∈ F, w.heap.size ≤ d ∧ d ≠ xb) :
    Calls Tryz.prog 38 #[.pointer (some ⟨b, 0, none⟩), .pointer (some ⟨xb, 0, none⟩), .pointer (some ⟨pb, 0, none⟩)] W (ChF w ((putC [] (valC ps k) value).2) (setP ps k (putC [] (valC ps k) value).1)) := by
  have hlo := hW.size
  have hp0 := (hW.cell (p := ⟨pb, 0, none⟩) hbx.pl).trans hbx.p
  have hk0 := (hW.cell (p := ⟨cb, off, none⟩) hcbl).trans hck
  have GET : Hid (Calls Tryz.prog 39 #[.pointer (some ⟨b, 0, none⟩), .string ⟨k.toArray⟩] W fun e w' => e = .returned (.tuple #[.string ⟨(valC ps k).toArray⟩, .bool (getP ps k).isSome]) ∧ w' = W) := get_any hb k (by unfold maxLen; omega)
  have PUT : Hid (∀ W' v, Below W.heap.size W W' → TxtRow W' v [] → Calls Tryz.prog 36 #[.string ⟨(valC ps k).toArray⟩, v, .pointer (some ⟨vb, 0, none⟩), .pointer (some ⟨pb, 0, none⟩)] W' fun e w' => e = .returned (.tuple #[.string ⟨(putC [] (valC ps k) value).1.toArray⟩, .int .i64 (putC [] (valC ps k) value).2]) ∧ Below W'.heap.size W' w') := fun W' v h1 h2 => IH _ v W' hvl (hW.trans (h1.mono hlo)) h2
  have HT : Hid (TxtRow w (.slice (some ⟨cb, off, none⟩) 0 0) []) := by
    show TxtRow _ _ _
    exact ⟨_, _, rfl, Nat.zero_le _, by unfold maxLen; omega, fun i hi => by simp at hi⟩
  have HB := Lib.hid hb
  have HWW := Lib.hid hW
  have HF := Lib.hid hF
  clear IH hb hF hW hbx hM hck
  generalize (getP ps k).isSome = iss at *
  generalize valC ps k = vv at *
  obtain ⟨⟨pt, pe⟩, hpq⟩ : ∃ q, putC [] vv value = q := ⟨_, rfl⟩
  rw [hpq] at PUT ⊢
  simp only at PUT ⊢
  clear hpq
  have REG : Hid (∀ W' v, Below w.heap.size W W' → Below W.heap.size W W' → TxtRow W' v [] → Calls Tryz.prog 36 #[.string ⟨vv.toArray⟩, v, .pointer (some ⟨vb, 0, none⟩), .pointer (some ⟨pb, 0, none⟩)] W' fun e w' => e = .returned (.tuple #[.string ⟨pt.toArray⟩, .int .i64 pe]) ∧ Below W'.heap.size W' w') := fun W' v _ h1 h2 => PUT.out W' v h1 h2
  have hdr : Hid (Below W.heap.size W W.drew ∧ TxtRow W.drew (.slice (some ⟨cb, off, none⟩) 0 0) []) := ⟨(Below.refl _ _).drew, HT.out.below (HWW.out.drew)⟩
  by_cases hpe : pe = 0
  · subst hpe
    have hk1 := hk0
    have hx1 := hx
    go_enter Tryz.func38, Tryz.ntmps38
    go_wp2_with (go_at_call 39; refine GET.out.mono ?_; rintro e w2 ⟨rfl, rfl⟩; skip)
    go_region_with (go_at_call 36; refine (PUT.out _ _ hdr.out.1 hdr.out.2).mono ?_; rintro e w3 ⟨rfl, hB3⟩; have H3 := Lib.hid hB3; clear hB3)
    all_goals
      have hx3 := (H3.out.cell (p := ⟨xb, 0, none⟩) hxl).trans hx1
      have hk3 := (H3.out.cell (p := ⟨cb, off, none⟩) (Nat.lt_of_lt_of_le hcbl hlo)).trans hk1
      have hb3 := HB.out.below ((Below.refl _ _).drew.trans H3.out)
      have SET : Hid (Calls Tryz.prog 40 #[.pointer (some ⟨b, 0, none⟩), .string ⟨k.toArray⟩, .string ⟨pt.toArray⟩] w3 fun e w' => e = .returned (.tuple #[]) ∧ SetRes w3 b F (setP ps k pt) w') := set_any hb3 k pt (by unfold maxLen; omega) (by omega)
      clear hb3
      go_wp2_with (go_at_call 40; refine SET.out.mono ?_; rintro e w4 ⟨rfl, F4, hb4, hk4, hf4, _⟩; have H4 := Lib.hid (And.intro hb4 hk4); clear hb4 hk4 hf4)
      go_ret2
      have hs3 := H3.out.size
      exact ⟨(HWW.out.trans (((Below.refl _ _).drew.trans H3.out).mono hlo)).trans (H4.out.2.below (Nat.le_trans hlo hs3) (fun d hd => (HF.out d hd).1)), .inr ⟨rfl, b, F4, rfl, H4.out.1⟩⟩
  · have t1 : (pe == 0) = false := beq_eq_false_iff_ne.2 hpe
    have HPE := Lib.hid hpe
    clear hpe
    go_enter Tryz.func38, Tryz.ntmps38
    go_wp2_with (go_at_call 39; refine GET.out.mono ?_; rintro e w2 ⟨rfl, rfl⟩; skip)
    go_region_with (go_at_call 36; refine (PUT.out _ _ hdr.out.1 hdr.out.2).mono ?_; rintro e w3 ⟨rfl, hB3⟩; have H3 := Lib.hid hB3; clear hB3)
    all_goals
      go_wp2
      go_ret2
      exact ⟨HWW.out.trans (((Below.refl _ _).drew.trans H3.out).mono hlo), .inl ⟨HPE.out, rfl⟩⟩
set_option maxRecDepth 100000 in
set_option maxHeartbeats 400000 in
/-- The function that 'put' hands to 'changed', put itself being known for the rest of the path. -/
theorem put_in2 {r : List Bs} {value k : Bs} {vb pb xb cb off c : Nat} {w W : World} {ps : Prs} {b : Nat} {F : List Nat} (hM : MaxIs w)
    (IH : ∀ s v W, s.length ≤ 19999 → Below w.heap.size w W → TxtRow W v r → Calls Tryz.prog 36 #[.string ⟨s.toArray⟩, v, .pointer (some ⟨vb, 0, none⟩), .pointer (some ⟨pb, 0, none⟩)] W fun e w' => e = .returned (.tuple #[.string ⟨(putC r s value).1.toArray⟩, .int .i64 (putC r s value).2]) ∧ Below W.heap.size W w')
    (hk : k.length ≤ 1000000) (hbx : PutBx w vb pb value) (hps : ps.length ≤ 100000) (hvl : (valC ps k).length ≤ 19999)
    (hx : W.cell? ⟨xb, 0, none⟩ = some (.slice (some ⟨cb, off, none⟩) (r.length + 1) c)) (hxl : xb < W.heap.size) (hcl : r.length + 1 ≤ c) (hcm : c ≤ maxLen) (hc1 : ¬ c = 1) (hcbl : cb < w.heap.size) (hck : w.cell? ⟨cb, off, none⟩ = some (.string ⟨k.toArray⟩)) (ht : TxtRow w (.slice (some ⟨cb, off + 1, none⟩) r.length (c - 1)) r)
    (hW : Below w.heap.size w W) (hb : Bk W b F ps) (hF : ∀ d ∈ F, w.heap.size ≤ d ∧ d ≠ xb) :
    Calls Tryz.prog 38 #[.pointer (some ⟨b, 0, none⟩), .pointer (some ⟨xb, 0, none⟩), .pointer (some ⟨pb, 0, none⟩)] W (ChF w ((putC r (valC ps k) value).2) (setP ps k (putC r (valC ps k) value).1)) := by
  have hlo := hW.size
  have hp0 := (hW.cell (p := ⟨pb, 0, none⟩) hbx.pl).trans hbx.p
  have hk0 := (hW.cell (p := ⟨cb, off, none⟩) hcbl).trans hck
  have GET : Hid (Calls Tryz.prog 39 #[.pointer (some ⟨b, 0, none⟩), .string ⟨k.toArray⟩] W fun e w' => e = .returned (.tuple #[.string ⟨(valC ps k).toArray⟩, .bool (getP ps k).isSome]) ∧ w' = W) := get_any hb k (by unfold maxLen; omega)
  have PUT : Hid (∀ W' v, Below W.heap.size W W' → TxtRow W' v r → Calls Tryz.prog 36 #[.string ⟨(valC ps k).toArray⟩, v, .pointer (some ⟨vb, 0, none⟩), .pointer (some ⟨pb, 0, none⟩)] W' fun e w' => e = .returned (.tuple #[.string ⟨(putC r (valC ps k) value).1.toArray⟩, .int .i64 (putC r (valC ps k) value).2]) ∧ Below W'.heap.size W' w') := fun W' v h1 h2 => IH _ v W' hvl (hW.trans (h1.mono hlo)) h2
  have HT := Lib.hid ht
  have HB := Lib.hid hb
  have HWW := Lib.hid hW
  have HF := Lib.hid hF
  have c1 : (1 : Int) ≤ (c : Int) := by omega
  have c2 : (1 : Int) ≤ (r.length : Int) + 1 := by omega
  have c3 : (r.length : Int) + 1 ≤ (c : Int) := by omega
  unfold maxLen at hcm
  clear IH ht hb hF hW hbx hM hck
  generalize (getP ps k).isSome = iss at *
  generalize valC ps k = vv at *
  obtain ⟨⟨pt, pe⟩, hpq⟩ : ∃ q, putC r vv value = q := ⟨_, rfl⟩
  rw [hpq] at PUT ⊢
  simp only at PUT ⊢
  clear hpq
  have REG : Hid (∀ W' v, Below w.heap.size W W' → Below W.heap.size W W' → TxtRow W' v r → Calls Tryz.prog 36 #[.string ⟨vv.toArray⟩, v, .pointer (some ⟨vb, 0, none⟩), .pointer (some ⟨pb, 0, none⟩)] W' fun e w' => e = .returned (.tuple #[.string ⟨pt.toArray⟩, .int .i64 pe]) ∧ Below W'.heap.size W' w') := fun W' v _ h1 h2 => PUT.out W' v h1 h2
  have hdr : Hid (Below W.heap.size W W.drew ∧ TxtRow W.drew (.slice (some ⟨cb, off + 1, none⟩) r.length (c - 1)) r) := ⟨(Below.refl _ _).drew, HT.out.below (HWW.out.drew)⟩
  by_cases hpe : pe = 0
  · subst hpe
    have hk1 := hk0
    have hx1 := hx
    go_enter Tryz.func38, Tryz.ntmps38
    go_wp2_with (go_at_call 39; refine GET.out.mono ?_; rintro e w2 ⟨rfl, rfl⟩; skip)
    go_region_with (go_at_call 36; refine (PUT.out _ _ hdr.out.1 hdr.out.2).mono ?_; rintro e w3 ⟨rfl, hB3⟩; have H3 := Lib.hid hB3; clear hB3)
    all_goals
      have hx3 := (H3.out.cell (p := ⟨xb, 0, none⟩) hxl).trans hx1
      have hk3 := (H3.out.cell (p := ⟨cb, off, none⟩) (Nat.lt_of_lt_of_le hcbl hlo)).trans hk1
      have hb3 := HB.out.below ((Below.refl _ _).drew.trans H3.out)
      have SET : Hid (Calls Tryz.prog 40 #[.pointer (some ⟨b, 0, none⟩), .string ⟨k.toArray⟩, .string ⟨pt.toArray⟩] w3 fun e w' => e = .returned (.tuple #[]) ∧ SetRes w3 b F (setP ps k pt) w') := set_any hb3 k pt (by unfold maxLen; omega) (by omega)
      clear hb3
      go_wp2_with (go_at_call 40; refine SET.out.mono ?_; rintro e w4 ⟨rfl, F4, hb4, hk4, hf4, _⟩; have H4 := Lib.hid (And.intro hb4 hk4); clear hb4 hk4 hf4)
      go_ret2
      have hs3 := H3.out.size
      exact ⟨(HWW.out.trans (((Below.refl _ _).drew.trans H3.out).mono hlo)).trans (H4.out.2.below (Nat.le_trans hlo hs3) (fun d hd => (HF.out d hd).1)), .inr ⟨rfl, b, F4, rfl, H4.out.1⟩⟩
  · have t1 : (pe == 0) = false := beq_eq_false_iff_ne.2 hpe
    have HPE := Lib.hid hpe
    clear hpe
    go_enter Tryz.func38, Tryz.ntmps38
    go_wp2_with (go_at_call 39; refine GET.out.mono ?_; rintro e w2 ⟨rfl, rfl⟩; skip)
    go_region_with (go_at_call 36; refine (PUT.out _ _ hdr.out.1 hdr.out.2).mono ?_; rintro e w3 ⟨rfl, hB3⟩; have H3 := Lib.hid hB3; clear hB3)
    all_goals
      go_wp2
      go_ret2
      exact ⟨HWW.out.trans (((Below.refl _ _).drew.trans H3.out).mono hlo), .inl ⟨HPE.out, rfl⟩⟩
end Go.Proofs.YteojlmpipfajoaaGreatDoor
namespace Go.Proofs.YteojlmpipfajoaaGreatDoor
set_option linter.unusedVariables false
set_option linter.unusedSimpArgs false
open Go.RowKit Go.MapKept Go.WideMaps

theorem setP_len (a : Prs) (k v : Bs) : (setP a k v).length ≤ a.length + 1 := by
  induction a with
  | nil => simp [setP]
  | cons q a ih => rw [setP]; split <;> simp <;> omega
set_option maxRecDepth 100000 in
set_option maxHeartbeats 1600000 in
theorem put_any {value : Bs} {vb pb : Nat} : ∀ (path : List Bs) (s : Bs) (v : Value) (w : World), MaxIs w → s.length ≤ 19999 → (∀ k ∈ path, k.length ≤ 1000000) → TxtRow w v path → PutBx w vb pb value →
    Calls Tryz.prog 36 #[.string ⟨s.toArray⟩, v, .pointer (some ⟨vb, 0, none⟩), .pointer (some ⟨pb, 0, none⟩)] w fun e w' => e = .returned (.tuple #[.string ⟨(putC path s value).1.toArray⟩, .int .i64 (putC path s value).2]) ∧ Below w.heap.size w w' := by
  intro path
  induction path with
  | nil =>
    intro s v w hM hs _ ht hbx
    obtain ⟨o, c, rfl, _⟩ := ht
    have hv0 := hbx.v
    have hp0 := hbx.p
    have hvl := hbx.vl
    go_enter Tryz.func36, Tryz.ntmps36
    go_wp2_with (fail)
    go_ret2
    exact ⟨rfl, (Below.refl _ _).alloc (Nat.le_refl _) _⟩
  | cons k r ih =>
    intro s v w hM hs hkl ht hbx
    obtain ⟨o, c, rfl, _⟩ := id ht
    obtain ⟨cb, off, rfl, hcl, hcm, hbl, hc0, ht1⟩ := ht.first
    have hk := hkl k (by simp)
    have hB1 : Below w.heap.size w (w.alloc (.cells #[.slice (some ⟨cb, off, none⟩) (k :: r).length c] 22)) := (Below.refl _ w).alloc (Nat.le_refl _) _
    have hx1 := (Boxed.new w 22 (.slice (some ⟨cb, off, none⟩) (k :: r).length c)).cell
    have hsz : (w.alloc (.cells #[.slice (some ⟨cb, off, none⟩) (k :: r).length c] 22)).heap.size = w.heap.size + 1 := by simp
    have CH : Hid (Calls Tryz.prog 37 #[.string ⟨s.toArray⟩, .func (.func 38) #[] #[.pointer (some ⟨w.heap.size, 0, none⟩), .pointer (some ⟨pb, 0, none⟩)]] (w.alloc (.cells #[.slice (some ⟨cb, off, none⟩) (k :: r).length c] 22)) fun e w' => e = .returned (.tuple #[.string ⟨(putC (k :: r) s value).1.toArray⟩, .int .i64 (putC (k :: r) s value).2]) ∧ Below w.heap.size w w') := by
      generalize w.alloc (.cells #[.slice (some ⟨cb, off, none⟩) (k :: r).length c] 22) = w1 at *
      have hM1 := hM.below hB1 hM.pos
      refine (changed_put s hs w1 hM1 (fun ps => (putC r (valC ps k) value).2) (fun ps => setP ps k (putC r (valC ps k) value).1) (fun ps hr W b F hW hb hF => ?_) (fun ps hr => ?_)).mono fun e w' ⟨h1, h2⟩ => ⟨h1, hB1.trans (h2.mono (by omega))⟩
      · have hps := read_len hr
        have hvl := val_len hr k
        have hlo := hW.size
        have hxW := (hW.cell (p := ⟨w.heap.size, 0, none⟩) (by show w.heap.size < w1.heap.size; omega)).trans hx1
        have hcl1 : cb < w1.heap.size := by omega
        have hck1 := (hB1.cell (p := ⟨cb, off, none⟩) hbl).trans hc0
        have hF' : ∀ d ∈ F, w1.heap.size ≤ d ∧ d ≠ w.heap.size := fun d hd => ⟨hF d hd, by have := hF d hd; omega⟩
        have hbx1 := hbx.below hB1
        by_cases c1 : c = 1
        · subst c1
          obtain rfl : r = [] := List.length_eq_zero_iff.1 (by have h9 : (k :: r).length = r.length + 1 := rfl; omega)
          exact put_in1 hM1 (fun s' v' W' h1 h2 h3 => ih s' v' W' (hM1.below h2 hM1.pos) h1 (by simp) h3 (hbx1.below h2)) hk hbx1 (by omega) (by omega) (by simpa using hxW) (by omega) hcl1 hck1 hW hb hF'
        · exact put_in2 hM1 (fun s' v' W' h1 h2 h3 => ih s' v' W' (hM1.below h2 hM1.pos) h1 (fun x hx => hkl x (List.mem_cons_of_mem _ hx)) h3 (hbx1.below h2)) hk hbx1 (by omega) (by omega) (by simpa using hxW) (by omega) (by simpa using hcl) hcm c1 hcl1 hck1 (ht1.below hB1) hW hb hF'
      · have h1 := setP_len ps k (putC r (valC ps k) value).1
        have h2 := read_len hr
        omega
    obtain ⟨m, hm⟩ : ∃ m, (k :: r).length = m + 1 := ⟨r.length, by simp⟩
    rw [hm] at CH ⊢
    clear hm ih ht ht1 hc0 hkl hx1 hsz hM hcl
    generalize putC (k :: r) s value = q at *
    have hp0 := hbx.p
    clear hbx
    have HB1 := Lib.hid hB1
    clear hB1
    go_enter Tryz.func36, Tryz.ntmps36
    go_wp2_with (go_at_call 37; refine CH.out.mono ?_; rintro e w3 ⟨rfl, hB3⟩; have H3 := Lib.hid hB3; clear hB3)
    go_ret2
    exact ⟨rfl, H3.out⟩
end Go.Proofs.YteojlmpipfajoaaGreatDoor
namespace Go.Proofs.YteojlmpipfajoaaGreatDoor
set_option linter.unusedVariables false
set_option linter.unusedSimpArgs false
open Go.RowKit Go.MapKept Go.WideMaps

/-- The world in which 'Set' has its two boxes. -/
theorem put_boxes (w : World) (value : Bs) : ∃ w2, w2 = ((w.alloc (.cells #[.string ⟨value.toArray⟩] 9)).alloc (.cells #[.func (.func 36) #[] #[.pointer (some ⟨w.heap.size, 0, none⟩), .pointer (some ⟨w.heap.size + 1, 0, none⟩)]] 85)) ∧ PutBx w2 w.heap.size (w.heap.size + 1) value ∧ Below w.heap.size w w2 := by
  refine ⟨_, rfl, ⟨?_, ?_, ?_, ?_⟩, ?_⟩
  · exact ((Boxed.new w 9 (.string ⟨value.toArray⟩)).alloc _).cell
  · have h := (Boxed.new (w.alloc (.cells #[.string ⟨value.toArray⟩] 9)) 85 (.func (.func 36) #[] #[.pointer (some ⟨w.heap.size, 0, none⟩), .pointer (some ⟨w.heap.size + 1, 0, none⟩)])).cell
    rw [show (w.alloc (.cells #[.string ⟨value.toArray⟩] 9)).heap.size = w.heap.size + 1 by simp] at h
    exact h
  · simp; omega
  · simp
  · exact ((Below.refl _ w).alloc (Nat.le_refl _) _).alloc (by simp) _
set_option maxRecDepth 100000 in
set_option maxHeartbeats 1600000 in
theorem Set_any (s : Bs) (path : List Bs) (value : Bs) (v : Value) (w : World) (hM : MaxIs w) (hs : s.length ≤ 19999) (hkl : ∀ k ∈ path, k.length ≤ 1000000) (ht : TxtRow w v path) :
    Calls Tryz.prog 17 #[.string ⟨s.toArray⟩, v, .string ⟨value.toArray⟩] w fun e w' => e = .returned (.tuple #[.string ⟨(setC s path value).1.toArray⟩, .int .i64 (setC s path value).2]) ∧ Below w.heap.size w w' := by
  obtain ⟨o, c, rfl, _⟩ := id ht
  have hnc : path.length ≤ c := ht.at_.2.1
  obtain ⟨w2, hw2, hbx, hB2⟩ := put_boxes w value
  have hp0 := hbx.p
  have hpl := hbx.pl
  have hlo := hB2.size
  have WK : Hid (Calls Tryz.prog 41 #[.string ⟨s.toArray⟩, .slice o path.length c] w2 fun e w' => e = .returned (.int .i64 (walkC s path)) ∧ Below w2.heap.size w2 w') := walk_any path s _ w2 hs hkl (ht.below hB2)
  have PUT : Hid (∀ w3, Below w2.heap.size w2 w3 → Calls Tryz.prog 36 #[.string ⟨s.toArray⟩, .slice o path.length c, .pointer (some ⟨w.heap.size, 0, none⟩), .pointer (some ⟨w.heap.size + 1, 0, none⟩)] w3 fun e w' => e = .returned (.tuple #[.string ⟨(putC path s value).1.toArray⟩, .int .i64 (putC path s value).2]) ∧ Below w3.heap.size w3 w') := fun w3 h3 =>
    put_any path s _ w3 (hM.below (hB2.trans (h3.mono hlo)) hM.pos) hs hkl (ht.below (hB2.trans (h3.mono hlo))) (hbx.below h3)
  have HB2 := Lib.hid hB2
  have HP0 := Lib.hid (And.intro hp0 (And.intro hpl hlo))
  unfold setC
  clear hB2 hbx ht hkl hM hp0 hpl hlo
  generalize putC path s value = q at *
  generalize walkC s path = k at *
  by_cases hk : k = 0
  · subst hk
    rw [if_pos rfl]
    subst hw2
    go_enter Tryz.func17, Tryz.ntmps17
    go_wp2_with (first | (go_at_call 41; refine WK.out.mono ?_; rintro e w3 ⟨rfl, hB3⟩; have hp3 := (hB3.cell (p := ⟨w.heap.size + 1, 0, none⟩) HP0.out.2.1).trans HP0.out.1; have H3 := Lib.hid hB3; clear hB3) | (go_at_call 36; refine (PUT.out _ H3.out).mono ?_; rintro e w4 ⟨rfl, hB4⟩; have H4 := Lib.hid hB4; clear hB4))
    go_ret2
    exact ⟨rfl, HB2.out.trans ((H3.out.mono HP0.out.2.2).trans (H4.out.mono (Nat.le_trans HP0.out.2.2 H3.out.size)))⟩
  · rw [if_neg hk]
    have t1 : (k == 0) = false := beq_eq_false_iff_ne.2 hk
    clear hk
    subst hw2
    go_enter Tryz.func17, Tryz.ntmps17
    go_wp2_with (first | (go_at_call 41; refine WK.out.mono ?_; rintro e w3 ⟨rfl, hB3⟩; have H3 := Lib.hid hB3; clear hB3))
    go_ret2
    exact ⟨rfl, HB2.out.trans (H3.out.mono HP0.out.2.2)⟩
end Go.Proofs.YteojlmpipfajoaaGreatDoor

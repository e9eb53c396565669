/- Tables in memory: stores into the table, into a command, new commands. -/
import Derived.Test.YtbbbenjakjejmaaTbDel
namespace Go.Proofs.Ytbbbenjakjejmaa
set_option linter.unusedVariables false
set_option linter.unusedSimpArgs false
open Go.RowKit Go.MapKept Go.WideMaps
open Go.Maps (Keyed string_keyed int_keyed)
section
variable {w w' : World} {B tb mn mh mk : Nat} {who who2 who2' : Own} {cb : Nat → Nat} {S : TS}
theorem set_other (w : World) {a i j : Nat} (x : Value) (h : j ≠ a) : (w.setCell ⟨a, i, none⟩ x).heap[j]? = w.heap[j]? := Below.heap_setCell w ⟨a, i, none⟩ x j (by simpa using h)
theorem set_size (w : World) (a : Addr) (x : Value) : (w.setCell a x).heap.size = w.heap.size := by simp [World.setCell]
/-- Blocks of one owner change. -/
theorem Stp.set {who : Own} {w : World} {a i : Nat} {x : Value} (h : who a ≠ none) : Stp who who w (w.setCell ⟨a, i, none⟩ x) :=
  ⟨⟨rfl, rfl, rfl, by rw [set_size]; exact Nat.le_refl _, fun j hj hn => set_other w x (by rintro rfl; exact h hn)⟩, fun _ _ => rfl⟩
theorem Stp.kp {who : Own} {w w' : World} {D : List Nat} (h : Kp D w w') (hD : ∀ d ∈ D, who d ≠ none) : Stp who who w w' :=
  ⟨⟨h.os, h.tape, h.output, h.size, fun j hj hn => h.block j hj (fun hd => hD j hd hn)⟩, fun _ _ => rfl⟩
theorem Stp.own {who : Own} {w : World} {b : Nat} {t : Nat × Nat} (hb : w.heap.size ≤ b) : Stp who (who.set b t) w w := ⟨Fr.refl _ _, fun j hj => Own.set_other (by omega)⟩
/-- What a table counts is put. -/
theorem Tb.setHdr (h : Tb w B tb mn mh mk who cb S) (i : Nat) (hi : i = 3 ∨ i = 4) (v : Nat) :
    Tb (w.setCell ⟨tb, i, none⟩ (.int .i64 (v : Int))) B tb mn mh mk who cb (if i = 3 then { S with last := v } else { S with epoch := v }) ∧ Stp who who w (w.setCell ⟨tb, i, none⟩ (.int .i64 (v : Int))) := by
  have hkp : ∀ j t, who j = some t → t ≠ (0, 0) → (w.setCell ⟨tb, i, none⟩ (.int .i64 (v : Int))).heap[j]? = w.heap[j]? := fun j t hj ht => set_other w _ (h.ne hj h.wtb ht)
  have hcel := set_heap (i := i) (.int .i64 (v : Int)) h.cel
  refine ⟨?_, Stp.set (by rw [h.wtb]; simp)⟩
  have key : ∀ S' : TS, S'.cm = S.cm → S'.nm = S.nm → (w.setCell ⟨tb, i, none⟩ (.int .i64 (v : Int))).heap[tb]? = some (.cells #[.map (some mn), .map (some mh), .map (some mk), .int .i64 (S'.last : Int), .int .i64 (S'.epoch : Int)] 57 (0, 0)) → Tb (w.setCell ⟨tb, i, none⟩ (.int .i64 (v : Int))) B tb mn mh mk who cb S' := by
    intro S' e1 e2 hc
    refine ⟨hc, h.wtb, h.wmn, h.wmh, h.wmk, ?_, ?_, ?_, fun n c hc' => ?_, fun j hj => ?_⟩
    · rw [e2]; exact h.names.congr (hkp mn _ h.wmn (by simp))
    · rw [e2]; exact h.hidden.congr (hkp mh _ h.wmh (by simp))
    · have : S'.num = S.num := by funext i; unfold TS.num; rw [e1]
      rw [this]; exact h.numbers.congr (hkp mk _ h.wmk (by simp))
    · rw [e1] at hc'
      have hN := h.cmd n c hc'
      exact hN.keep (hkp _ _ hN.1 (by simp)) (fun j hj => hkp j _ hj (by simp)) (fun _ _ h => h)
    · rw [set_size]; exact h.lo j hj
  rcases hi with rfl | rfl
  · exact key _ rfl rfl hcel
  · exact key _ rfl rfl hcel
/-- A command's name, its kind, its imports are put. -/
theorem CmAt.set {n : Nat} {c : Cm} (h : CmAt w B who cb n c) (hB : ∀ g, who g = some (5, n) → g ≠ cb n) (i : Nat) (x : Value) (c' : Cm)
    (hx : (i = 1 ∧ x = .string ⟨c'.name.toArray⟩ ∧ c'.hid = c.hid) ∨ (i = 2 ∧ x = .bool c'.hid ∧ c'.name = c.name)) (ho : c'.org = c.org) (hi : c'.imp = c.imp) : CmAt (w.setCell ⟨cb n, i, none⟩ x) B who cb n c' := by
  obtain ⟨h1, v, h2, h3, h4⟩ := h
  refine ⟨h1, v, ?_, ?_, h4⟩
  · have := set_heap (i := i) x h2
    rw [this, ho]
    rcases hx with ⟨rfl, rfl, e⟩ | ⟨rfl, rfl, e⟩
    · rw [e]; rfl
    · rw [e]; rfl
  · rw [hi]
    exact row_keep h3 (fun g hg => set_other w x (hB g (h4 g hg)))
theorem Tb.ne5 (h : Tb w B tb mn mh mk who cb S) {n : Nat} {c : Cm} (hc : S.cm n = some c) : ∀ g, who g = some (5, n) → g ≠ cb n := fun g hg => h.ne hg (h.cmd n c hc).1 (by simp)
/-- A cell of a command is put. -/
theorem Tb.setCell (h : Tb w B tb mn mh mk who cb S) {n : Nat} {c c' : Cm} (hc : S.cm n = some c) (i : Nat) (x : Value)
    (hx : (i = 1 ∧ x = .string ⟨c'.name.toArray⟩ ∧ c'.hid = c.hid) ∨ (i = 2 ∧ x = .bool c'.hid ∧ c'.name = c.name)) (ho : c'.org = c.org) (hi : c'.imp = c.imp) :
    Tb (w.setCell ⟨cb n, i, none⟩ x) B tb mn mh mk who cb { S with cm := fun k => if k = n then some c' else S.cm k } ∧ Stp who who w (w.setCell ⟨cb n, i, none⟩ x) :=
  ⟨h.setCmd hc (fun j t hj h4 _ => set_other w x (h.ne hj (h.cmd n c hc).1 h4)) (by rw [set_size]; exact Nat.le_refl _) (fun _ _ h => h) (fun j hj => by rw [set_size]; exact h.lo j hj) ((h.cmd n c hc).set (h.ne5 hc) i x c' hx ho hi),
    Stp.set (by rw [(h.cmd n c hc).1]; simp)⟩
/-- A command's imports are put: a row that was theirs, or a new one. -/
theorem Tb.setImp {who' : Own} {w1 : World} {v v' : Value} {imp' : List Nat} (h : Tb w B tb mn mh mk who cb S) {n : Nat} {c : Cm} (hc : S.cm n = some c) (hv : w.cell? ⟨cb n, 4, none⟩ = some v) (hk : Kp v.ownBlock.toList w w1)
    (hr : w1.ownsRow B 62 1 v' imp'.length (imp'.map fun i => ptrC (cb i))) (hg : (v'.ownBlock = v.ownBlock ∧ who' = who) ∨ ∃ g, v'.ownBlock = some g ∧ w.heap.size ≤ g ∧ who' = who.set g (5, n)) :
    Tb (w1.setCell ⟨cb n, 4, none⟩ v') B tb mn mh mk who' cb { S with cm := fun k => if k = n then some { c with imp := imp' } else S.cm k } ∧ Stp who who' w (w1.setCell ⟨cb n, 4, none⟩ v') := by
  have hC := h.cmd n c hc
  obtain ⟨h1, u, h2, h3, h4⟩ := hC
  have huv : u = v := by
    have : w.cell? ⟨cb n, 4, none⟩ = some u := by simp [World.cell?, h2]
    rw [this] at hv
    exact Option.some.inj hv
  subst huv
  have hlt := (h.lo (cb n) (by rw [h1]; simp)).2
  have hown : ∀ g ∈ u.ownBlock.toList, who g = some (5, n) := fun g hg => h4 g (by simpa using hg)
  have hcn : cb n ∉ u.ownBlock.toList := fun hm => h.ne (hown _ hm) h1 (by simp) rfl
  have hmono : ∀ j t, who j = some t → who' j = some t := by
    rcases hg with ⟨_, rfl⟩ | ⟨g, _, hge, rfl⟩
    · exact fun _ _ h => h
    · exact own_set_mono (h.none_at hge)
  have hvlt : ∀ g, v'.ownBlock = some g → g < w1.heap.size ∧ B ≤ g := fun g hg => ⟨(hr.lt g hg).2, (hr.lt g hg).1⟩
  have hkp : ∀ j t, who j = some t → t ≠ (4, n) → t ≠ (5, n) → (w1.setCell ⟨cb n, 4, none⟩ v').heap[j]? = w.heap[j]? := fun j t hj t4 t5 =>
    (set_other w1 v' (h.ne hj h1 t4)).trans (hk.block j (h.lo j (by rw [hj]; simp)).2 (fun hm => h.ne hj (hown j hm) t5 rfl))
  have hvcb : ∀ g, v'.ownBlock = some g → g ≠ cb n := by
    intro g hg' e
    rcases hg with ⟨e1, _⟩ | ⟨g', e1, hge, _⟩
    · rw [e1] at hg'; exact hcn (by rw [hg']; simpa using e.symm)
    · rw [e1] at hg'; cases hg'; omega
  have hat : CmAt (w1.setCell ⟨cb n, 4, none⟩ v') B who' cb n { c with imp := imp' } := by
    have hb1 := (hk.block (cb n) hlt hcn).trans h2
    refine ⟨hmono _ _ h1, v', (set_heap (i := 4) v' hb1).trans rfl, row_keep hr (fun g hg => set_other w1 v' (hvcb g hg)), fun g hg' => ?_⟩
    rcases hg with ⟨e1, rfl⟩ | ⟨g', e1, hge, rfl⟩
    · rw [e1] at hg'; exact h4 g hg'
    · rw [e1] at hg'; cases hg'; exact Own.set_same _ _ _
  have hsz : w.heap.size ≤ (w1.setCell ⟨cb n, 4, none⟩ v').heap.size := by rw [set_size]; exact hk.size
  refine ⟨h.setCmd hc hkp hsz hmono (fun j hj => ?_) hat, ⟨⟨hk.os, hk.tape, hk.output, hsz, fun j hj hn => ?_⟩, fun j hj => ?_⟩⟩
  · rw [set_size]
    rcases hg with ⟨_, rfl⟩ | ⟨g, e1, hge, rfl⟩
    · have := h.lo j hj; exact ⟨this.1, Nat.lt_of_lt_of_le this.2 hk.size⟩
    · by_cases e : j = g
      · subst e; exact ⟨(hvlt _ e1).2, (hvlt _ e1).1⟩
      · rw [Own.set_other e] at hj
        have := h.lo j hj; exact ⟨this.1, Nat.lt_of_lt_of_le this.2 hk.size⟩
  · rw [set_other w1 v' (by rintro rfl; rw [h1] at hn; cases hn)]
    exact hk.block j hj (fun hm => by rw [hown j hm] at hn; cases hn)
  · rcases hg with ⟨_, rfl⟩ | ⟨g, e1, hge, rfl⟩
    · rfl
    · exact Own.set_other (by omega)
/-- Names of blocks that no command has may change. -/
theorem Tb.recb {cb' : Nat → Nat} (h : Tb w B tb mn mh mk who cb S) (hw : WF S) (hp : ∀ i c, S.cm i = some c → cb' i = cb i) : Tb w B tb mn mh mk who cb' S := by
  have hnm : ∀ hid, (fun k => (S.nm hid k).map fun n => ptrC (cb' n)) = fun k => (S.nm hid k).map fun n => ptrC (cb n) := fun hid => by
    funext k
    cases e : S.nm hid k with
    | none => rfl
    | some n =>
      obtain ⟨c, h1, _⟩ := (hw.names _ _ _).1 e
      simp only [Option.map_some, hp n c h1]
  have hnum : (fun i => (S.num i).map fun n => ptrC (cb' n)) = fun i => (S.num i).map fun n => ptrC (cb n) := by
    funext i
    unfold TS.num
    cases e : S.cm i.toNat with
    | none => simp
    | some c =>
      by_cases h0 : 0 ≤ i
      · simp [h0, hp _ c e]
      · simp [h0]
  refine ⟨h.cel, h.wtb, h.wmn, h.wmh, h.wmk, by rw [hnm]; exact h.names, by rw [hnm]; exact h.hidden, by rw [hnum]; exact h.numbers, fun n c e => ?_, h.lo⟩
  obtain ⟨h1, v, h2, h3, h4⟩ := h.cmd n c e
  have e1 : ptrO cb' c.org = ptrO cb c.org := by
    unfold ptrO
    by_cases h0 : c.org = 0
    · rw [if_pos h0, if_pos h0]
    · obtain ⟨p, hp', _⟩ := hw.org n c e h0
      rw [if_neg h0, if_neg h0, hp _ p hp']
  have e2 : (c.imp.map fun i => ptrC (cb' i)) = c.imp.map fun i => ptrC (cb i) := List.map_congr_left fun i hi => by
    obtain ⟨d, hd, _⟩ := hw.imp n c e i hi
    rw [hp i d hd]
  refine ⟨by rw [hp n c e]; exact h1, v, ?_, by rw [e2]; exact h3, h4⟩
  rw [hp n c e, e1]
  exact h2
/-- A block gets an owner. -/
theorem Tb.own (h : Tb w B tb mn mh mk who cb S) {b : Nat} {t : Nat × Nat} (hb : who b = none) (hB : B ≤ b) (hlt : b < w.heap.size) : Tb w B tb mn mh mk (who.set b t) cb S := by
  have hm := own_set_mono (t := t) hb
  refine ⟨h.cel, hm _ _ h.wtb, hm _ _ h.wmn, hm _ _ h.wmh, hm _ _ h.wmk, h.names, h.hidden, h.numbers, fun n c hc => (h.cmd n c hc).keep rfl (fun _ _ => rfl) hm, fun j hj => ?_⟩
  by_cases e : j = b
  · subst e; exact ⟨hB, hlt⟩
  · rw [Own.set_other e] at hj; exact h.lo j hj
/-- A store into the numbers. -/
theorem Tb.putNum (h : Tb w B tb mn mh mk who cb S) {n : Nat} {c : Cm} (hn : (Lit.int .i64 (n : Int)).wf = true) (hat : CmAt w B who cb n c) :
    ∃ w', (Instr.mapUpdate 55 (.map (some mk)) (.int .i64 (n : Int)) (.pointer (some ⟨cb n, 0, none⟩))).run Try.prog w = .ok () w' ∧
      Tb w' B tb mn mh mk who cb { S with cm := fun k => if k = n then some c else S.cm k } ∧ Stp who who w w' := by
  obtain ⟨w3, hup, ho, hma⟩ := h.numbers.store Ikeyed Try.underlying55 iv_inj (k := (n : Int)) (ikey hn) (ptrC (cb n))
  have hkp : ∀ j t, who j = some t → t ≠ (1, 2) → w3.heap[j]? = w.heap[j]? := fun j t hj ht => ho.block j (h.ne hj h.wmk ht)
  have e : (fun i : Int => if i = (n : Int) then some (ptrC (cb n)) else (S.num i).map fun n => ptrC (cb n)) = fun i => (({ S with cm := fun k => if k = n then some c else S.cm k } : TS).num i).map fun n => ptrC (cb n) := by
    funext i
    by_cases e : i = (n : Int)
    · rw [if_pos e]
      subst e
      simp [TS.num]
    · rw [if_neg e]
      unfold TS.num
      by_cases h0 : 0 ≤ i
      · have : i.toNat ≠ n := by omega
        simp [this]
      · simp [h0]
  rw [e] at hma
  refine ⟨w3, hup, ⟨(hkp tb _ h.wtb (by simp)).trans h.cel, h.wtb, h.wmn, h.wmh, h.wmk, h.names.congr (hkp mn _ h.wmn (by simp)), h.hidden.congr (hkp mh _ h.wmh (by simp)), hma, fun k d hd => ?_, fun j hj => ⟨(h.lo j hj).1, by rw [ho.size]; exact (h.lo j hj).2⟩⟩,
    ⟨⟨ho.os, ho.tape, ho.output, Nat.le_of_eq ho.size.symm, fun j _ hn => ho.block j (by rintro rfl; rw [h.wmk] at hn; cases hn)⟩, fun _ _ => rfl⟩⟩
  simp only at hd
  by_cases e : k = n
  · rw [if_pos e] at hd
    cases hd
    subst e
    exact hat.keep (hkp _ _ hat.1 (by simp)) (fun j hj => hkp j _ hj (by simp)) (fun _ _ h => h)
  · rw [if_neg e] at hd
    exact (h.cmd k d hd).keep (hkp _ _ (h.cmd k d hd).1 (by simp)) (fun j hj => hkp j _ hj (by simp)) (fun _ _ h => h)
end
end Go.Proofs.Ytbbbenjakjejmaa

/- Tables in memory: stores into the table, into a command, new commands. 'take' under way: the table, the list of what is gone, what stays. The reference's table in memory, and how it goes with the program's one. -/
import Derived.Test.YtbbbenjakjejmaaGreatTbDel
namespace Go.Proofs.YtbbbenjakjejmaaGreat
set_option linter.unusedVariables false
set_option linter.unusedSimpArgs false
open Go.RowKit Go.MapKept Go.WideMaps
open Go.Maps (Keyed string_keyed int_keyed)
section
variable {w w' : World} {B tb mn mh mk : Nat} {who who2 who2' : Own} {cb : Nat → Nat} {S : TS}
theorem set_other (w : World) {a i j : Nat} (x : Value) (h : j ≠ a) : (w.setCell ⟨a, i, none⟩ x).heap[j]? = w.heap[j]? := Below.heap_setCell w ⟨a, i, none⟩ x j (by simpa using h)
theorem set_size (w : World) (a : Addr) (x : Value) : (w.setCell a x).heap.size = w.heap.size := by simp [World.setCell]
/-- Blocks of one owner change. -/
theorem Stp.set {who : Own} {w : World} {a i : Nat} {x : Value} (h : who a ≠ none) : Stp who who w (w.setCell ⟨a, i, none⟩ x) :=
  ⟨⟨rfl, rfl, rfl, by rw [set_size]; exact Nat.le_refl _, fun j hj hn => set_other w x (by rintro rfl; exact h hn)⟩, fun _ _ => rfl⟩
theorem Stp.kp {who : Own} {w w' : World} {D : List Nat} (h : Kp D w w') (hD : ∀ d ∈ D, who d ≠ none) : Stp who who w w' :=
  ⟨⟨h.os, h.tape, h.output, h.size, fun j hj hn => h.block j hj (fun hd => hD j hd hn)⟩, fun _ _ => rfl⟩
theorem Stp.own {who : Own} {w : World} {b : Nat} {t : Nat × Nat} (hb : w.heap.size ≤ b) : Stp who (who.set b t) w w := ⟨Fr.refl _ _, fun j hj => Own.set_other (by omega)⟩
/-- What a table counts is put. -/
theorem Tb.setHdr (h : Tb w B tb mn mh mk who cb S) (i : Nat) (hi : i = 3 ∨ i = 4) (v : Nat) :
    Tb (w.setCell ⟨tb, i, none⟩ (.int .i64 (v : Int))) B tb mn mh mk who cb (if i = 3 then { S with last := v } else { S with epoch := v }) ∧ Stp who who w (w.setCell ⟨tb, i, none⟩ (.int .i64 (v : Int))) := by
  have hkp : ∀ j t, who j = some t → t ≠ (0, 0) → (w.setCell ⟨tb, i, none⟩ (.int .i64 (v : Int))).heap[j]? = w.heap[j]? := fun j t hj ht => set_other w _ (h.ne hj h.wtb ht)
  have hcel := set_heap (i := i) (.int .i64 (v : Int)) h.cel
  refine ⟨?_, Stp.set (by rw [h.wtb]; simp)⟩
  have key : ∀ S' : TS, S'.cm = S.cm → S'.nm = S.nm → (w.setCell ⟨tb, i, none⟩ (.int .i64 (v : Int))).heap[tb]? = some (.cells #[.map (some mn), .map (some mh), .map (some mk), .int .i64 (S'.last : Int), .int .i64 (S'.epoch : Int)] 46 (0, 0)) → Tb (w.setCell ⟨tb, i, none⟩ (.int .i64 (v : Int))) B tb mn mh mk who cb S' := by
    intro S' e1 e2 hc
    refine ⟨hc, h.wtb, h.wmn, h.wmh, h.wmk, ?_, ?_, ?_, fun n c hc' => ?_, fun j hj => ?_⟩
    · rw [e2]; exact h.names.congr (hkp mn _ h.wmn (by simp))
    · rw [e2]; exact h.hidden.congr (hkp mh _ h.wmh (by simp))
    · have : S'.num = S.num := by funext i; unfold TS.num; rw [e1]
      rw [this]; exact h.numbers.congr (hkp mk _ h.wmk (by simp))
    · rw [e1] at hc'
      have hN := h.cmd n c hc'
      exact hN.keep (hkp _ _ hN.1 (by simp)) (fun j hj => hkp j _ hj (by simp)) (fun _ _ h => h)
    · rw [set_size]; exact h.lo j hj
  rcases hi with rfl | rfl
  · exact key _ rfl rfl hcel
  · exact key _ rfl rfl hcel
/-- A command's name, its kind, its imports are put. -/
theorem CmAt.set {n : Nat} {c : Cm} (h : CmAt w B who cb n c) (hB : ∀ g, who g = some (5, n) → g ≠ cb n) (i : Nat) (x : Value) (c' : Cm)
    (hx : (i = 1 ∧ x = .string ⟨c'.name.toArray⟩ ∧ c'.hid = c.hid) ∨ (i = 2 ∧ x = .bool c'.hid ∧ c'.name = c.name)) (ho : c'.org = c.org) (hi : c'.imp = c.imp) : CmAt (w.setCell ⟨cb n, i, none⟩ x) B who cb n c' := by
  obtain ⟨h1, v, h2, h3, h4⟩ := h
  refine ⟨h1, v, ?_, ?_, h4⟩
  · have := set_heap (i := i) x h2
    rw [this, ho]
    rcases hx with ⟨rfl, rfl, e⟩ | ⟨rfl, rfl, e⟩
    · rw [e]; rfl
    · rw [e]; rfl
  · rw [hi]
    exact row_keep h3 (fun g hg => set_other w x (hB g (h4 g hg)))
theorem Tb.ne5 (h : Tb w B tb mn mh mk who cb S) {n : Nat} {c : Cm} (hc : S.cm n = some c) : ∀ g, who g = some (5, n) → g ≠ cb n := fun g hg => h.ne hg (h.cmd n c hc).1 (by simp)
/-- A cell of a command is put. -/
theorem Tb.setCell (h : Tb w B tb mn mh mk who cb S) {n : Nat} {c c' : Cm} (hc : S.cm n = some c) (i : Nat) (x : Value)
    (hx : (i = 1 ∧ x = .string ⟨c'.name.toArray⟩ ∧ c'.hid = c.hid) ∨ (i = 2 ∧ x = .bool c'.hid ∧ c'.name = c.name)) (ho : c'.org = c.org) (hi : c'.imp = c.imp) :
    Tb (w.setCell ⟨cb n, i, none⟩ x) B tb mn mh mk who cb { S with cm := fun k => if k = n then some c' else S.cm k } ∧ Stp who who w (w.setCell ⟨cb n, i, none⟩ x) :=
  ⟨h.setCmd hc (fun j t hj h4 _ => set_other w x (h.ne hj (h.cmd n c hc).1 h4)) (by rw [set_size]; exact Nat.le_refl _) (fun _ _ h => h) (fun j hj => by rw [set_size]; exact h.lo j hj) ((h.cmd n c hc).set (h.ne5 hc) i x c' hx ho hi),
    Stp.set (by rw [(h.cmd n c hc).1]; simp)⟩
/-- A command's imports are put: a row that was theirs, or a new one. -/
theorem Tb.setImp {who' : Own} {w1 : World} {v v' : Value} {imp' : List Nat} (h : Tb w B tb mn mh mk who cb S) {n : Nat} {c : Cm} (hc : S.cm n = some c) (hv : w.cell? ⟨cb n, 4, none⟩ = some v) (hk : Kp v.ownBlock.toList w w1)
    (hr : w1.ownsRow B 60 1 v' imp'.length (imp'.map fun i => ptrC (cb i))) (hg : (v'.ownBlock = v.ownBlock ∧ who' = who) ∨ ∃ g, v'.ownBlock = some g ∧ w.heap.size ≤ g ∧ who' = who.set g (5, n)) :
    Tb (w1.setCell ⟨cb n, 4, none⟩ v') B tb mn mh mk who' cb { S with cm := fun k => if k = n then some { c with imp := imp' } else S.cm k } ∧ Stp who who' w (w1.setCell ⟨cb n, 4, none⟩ v') := by
  have hC := h.cmd n c hc
  obtain ⟨h1, u, h2, h3, h4⟩ := hC
  have huv : u = v := by
    have : w.cell? ⟨cb n, 4, none⟩ = some u := by simp [World.cell?, h2]
    rw [this] at hv
    exact Option.some.inj hv
  subst huv
  have hlt := (h.lo (cb n) (by rw [h1]; simp)).2
  have hown : ∀ g ∈ u.ownBlock.toList, who g = some (5, n) := fun g hg => h4 g (by simpa using hg)
  have hcn : cb n ∉ u.ownBlock.toList := fun hm => h.ne (hown _ hm) h1 (by simp) rfl
  have hmono : ∀ j t, who j = some t → who' j = some t := by
    rcases hg with ⟨_, rfl⟩ | ⟨g, _, hge, rfl⟩
    · exact fun _ _ h => h
    · exact own_set_mono (h.none_at hge)
  have hvlt : ∀ g, v'.ownBlock = some g → g < w1.heap.size ∧ B ≤ g := fun g hg => ⟨(hr.lt g hg).2, (hr.lt g hg).1⟩
  have hkp : ∀ j t, who j = some t → t ≠ (4, n) → t ≠ (5, n) → (w1.setCell ⟨cb n, 4, none⟩ v').heap[j]? = w.heap[j]? := fun j t hj t4 t5 =>
    (set_other w1 v' (h.ne hj h1 t4)).trans (hk.block j (h.lo j (by rw [hj]; simp)).2 (fun hm => h.ne hj (hown j hm) t5 rfl))
  have hvcb : ∀ g, v'.ownBlock = some g → g ≠ cb n := by
    intro g hg' e
    rcases hg with ⟨e1, _⟩ | ⟨g', e1, hge, _⟩
    · rw [e1] at hg'; exact hcn (by rw [hg']; simpa using e.symm)
    · rw [e1] at hg'; cases hg'; omega
  have hat : CmAt (w1.setCell ⟨cb n, 4, none⟩ v') B who' cb n { c with imp := imp' } := by
    have hb1 := (hk.block (cb n) hlt hcn).trans h2
    refine ⟨hmono _ _ h1, v', (set_heap (i := 4) v' hb1).trans rfl, row_keep hr (fun g hg => set_other w1 v' (hvcb g hg)), fun g hg' => ?_⟩
    rcases hg with ⟨e1, rfl⟩ | ⟨g', e1, hge, rfl⟩
    · rw [e1] at hg'; exact h4 g hg'
    · rw [e1] at hg'; cases hg'; exact Own.set_same _ _ _
  have hsz : w.heap.size ≤ (w1.setCell ⟨cb n, 4, none⟩ v').heap.size := by rw [set_size]; exact hk.size
  refine ⟨h.setCmd hc hkp hsz hmono (fun j hj => ?_) hat, ⟨⟨hk.os, hk.tape, hk.output, hsz, fun j hj hn => ?_⟩, fun j hj => ?_⟩⟩
  · rw [set_size]
    rcases hg with ⟨_, rfl⟩ | ⟨g, e1, hge, rfl⟩
    · have := h.lo j hj; exact ⟨this.1, Nat.lt_of_lt_of_le this.2 hk.size⟩
    · by_cases e : j = g
      · subst e; exact ⟨(hvlt _ e1).2, (hvlt _ e1).1⟩
      · rw [Own.set_other e] at hj
        have := h.lo j hj; exact ⟨this.1, Nat.lt_of_lt_of_le this.2 hk.size⟩
  · rw [set_other w1 v' (by rintro rfl; rw [h1] at hn; cases hn)]
    exact hk.block j hj (fun hm => by rw [hown j hm] at hn; cases hn)
  · rcases hg with ⟨_, rfl⟩ | ⟨g, e1, hge, rfl⟩
    · rfl
    · exact Own.set_other (by omega)
/-- Names of blocks that no command has may change. -/
theorem Tb.recb {cb' : Nat → Nat} (h : Tb w B tb mn mh mk who cb S) (hw : WF S) (hp : ∀ i c, S.cm i = some c → cb' i = cb i) : Tb w B tb mn mh mk who cb' S := by
  have hnm : ∀ hid, (fun k => (S.nm hid k).map fun n => ptrC (cb' n)) = fun k => (S.nm hid k).map fun n => ptrC (cb n) := fun hid => by
    funext k
    cases e : S.nm hid k with
    | none => rfl
    | some n =>
      obtain ⟨c, h1, _⟩ := (hw.names _ _ _).1 e
      simp only [Option.map_some, hp n c h1]
  have hnum : (fun i => (S.num i).map fun n => ptrC (cb' n)) = fun i => (S.num i).map fun n => ptrC (cb n) := by
    funext i
    unfold TS.num
    cases e : S.cm i.toNat with
    | none => simp
    | some c =>
      by_cases h0 : 0 ≤ i
      · simp [h0, hp _ c e]
      · simp [h0]
  refine ⟨h.cel, h.wtb, h.wmn, h.wmh, h.wmk, by rw [hnm]; exact h.names, by rw [hnm]; exact h.hidden, by rw [hnum]; exact h.numbers, fun n c e => ?_, h.lo⟩
  obtain ⟨h1, v, h2, h3, h4⟩ := h.cmd n c e
  have e1 : ptrO cb' c.org = ptrO cb c.org := by
    unfold ptrO
    by_cases h0 : c.org = 0
    · rw [if_pos h0, if_pos h0]
    · obtain ⟨p, hp', _⟩ := hw.org n c e h0
      rw [if_neg h0, if_neg h0, hp _ p hp']
  have e2 : (c.imp.map fun i => ptrC (cb' i)) = c.imp.map fun i => ptrC (cb i) := List.map_congr_left fun i hi => by
    obtain ⟨d, hd, _⟩ := hw.imp n c e i hi
    rw [hp i d hd]
  refine ⟨by rw [hp n c e]; exact h1, v, ?_, by rw [e2]; exact h3, h4⟩
  rw [hp n c e, e1]
  exact h2
/-- A block gets an owner. -/
theorem Tb.own (h : Tb w B tb mn mh mk who cb S) {b : Nat} {t : Nat × Nat} (hb : who b = none) (hB : B ≤ b) (hlt : b < w.heap.size) : Tb w B tb mn mh mk (who.set b t) cb S := by
  have hm := own_set_mono (t := t) hb
  refine ⟨h.cel, hm _ _ h.wtb, hm _ _ h.wmn, hm _ _ h.wmh, hm _ _ h.wmk, h.names, h.hidden, h.numbers, fun n c hc => (h.cmd n c hc).keep rfl (fun _ _ => rfl) hm, fun j hj => ?_⟩
  by_cases e : j = b
  · subst e; exact ⟨hB, hlt⟩
  · rw [Own.set_other e] at hj; exact h.lo j hj
/-- A store into the numbers. -/
theorem Tb.putNum (h : Tb w B tb mn mh mk who cb S) {n : Nat} {c : Cm} (hn : (Lit.int .i64 (n : Int)).wf = true) (hat : CmAt w B who cb n c) :
    ∃ w', (Instr.mapUpdate 44 (.map (some mk)) (.int .i64 (n : Int)) (.pointer (some ⟨cb n, 0, none⟩))).run Tryz.prog w = .ok () w' ∧
      Tb w' B tb mn mh mk who cb { S with cm := fun k => if k = n then some c else S.cm k } ∧ Stp who who w w' := by
  obtain ⟨w3, hup, ho, hma⟩ := h.numbers.store Ikeyed Tryz.underlying44 iv_inj (k := (n : Int)) (ikey hn) (ptrC (cb n))
  have hkp : ∀ j t, who j = some t → t ≠ (1, 2) → w3.heap[j]? = w.heap[j]? := fun j t hj ht => ho.block j (h.ne hj h.wmk ht)
  have e : (fun i : Int => if i = (n : Int) then some (ptrC (cb n)) else (S.num i).map fun n => ptrC (cb n)) = fun i => (({ S with cm := fun k => if k = n then some c else S.cm k } : TS).num i).map fun n => ptrC (cb n) := by
    funext i
    by_cases e : i = (n : Int)
    · rw [if_pos e]
      subst e
      simp [TS.num]
    · rw [if_neg e]
      unfold TS.num
      by_cases h0 : 0 ≤ i
      · have : i.toNat ≠ n := by omega
        simp [this]
      · simp [h0]
  rw [e] at hma
  refine ⟨w3, hup, ⟨(hkp tb _ h.wtb (by simp)).trans h.cel, h.wtb, h.wmn, h.wmh, h.wmk, h.names.congr (hkp mn _ h.wmn (by simp)), h.hidden.congr (hkp mh _ h.wmh (by simp)), hma, fun k d hd => ?_, fun j hj => ⟨(h.lo j hj).1, by rw [ho.size]; exact (h.lo j hj).2⟩⟩,
    ⟨⟨ho.os, ho.tape, ho.output, Nat.le_of_eq ho.size.symm, fun j _ hn => ho.block j (by rintro rfl; rw [h.wmk] at hn; cases hn)⟩, fun _ _ => rfl⟩⟩
  simp only at hd
  by_cases e : k = n
  · rw [if_pos e] at hd
    cases hd
    subst e
    exact hat.keep (hkp _ _ hat.1 (by simp)) (fun j hj => hkp j _ hj (by simp)) (fun _ _ h => h)
  · rw [if_neg e] at hd
    exact (h.cmd k d hd).keep (hkp _ _ (h.cmd k d hd).1 (by simp)) (fun j hj => hkp j _ hj (by simp)) (fun _ _ h => h)
end
end Go.Proofs.YtbbbenjakjejmaaGreat
namespace Go.Proofs.YtbbbenjakjejmaaGreat
set_option linter.unusedVariables false
set_option linter.unusedSimpArgs false
open Go.RowKit Go.MapKept Go.WideMaps

/-- The table, and at block ob a list of numbers, its row beside the table. -/
structure Tk (w : World) (B tb mn mh mk : Nat) (who : Own) (cb : Nat → Nat) (S : TS) (ob : Nat) (row : Value) (zs : List Int) : Prop where
  tb : Tb w B tb mn mh mk who cb S
  wob : who ob = none
  cel : w.heap[ob]? = some (.cells #[row] 32 (0, 0))
  own : w.ownsRow B 3 1 row zs.length (zs.map (Value.int .i64))
  sep : ∀ g, row.ownBlock = some g → who g = none
/-- But for the table, the list and its row all stays. -/
structure TkStp (who : Own) (ob : Nat) (row row' : Value) (w w' : World) : Prop where
  os : w'.os = w.os
  tape : w'.tape = w.tape
  output : w'.output = w.output
  size : w.heap.size ≤ w'.heap.size
  block : ∀ j, j < w.heap.size → who j = none → j ≠ ob → row.ownBlock ≠ some j → w'.heap[j]? = w.heap[j]?
  row : row'.ownBlock = row.ownBlock ∨ ∃ g, row'.ownBlock = some g ∧ w.heap.size ≤ g
section
variable {w w1 w2 w' : World} {B tb mn mh mk ob : Nat} {who : Own} {cb : Nat → Nat} {S : TS} {row row1 row2 : Value} {zs : List Int}
theorem TkStp.refl (who : Own) (ob : Nat) (row : Value) (w : World) : TkStp who ob row row w w := ⟨rfl, rfl, rfl, Nat.le_refl _, fun _ _ _ _ _ => rfl, .inl rfl⟩
theorem TkStp.trans (h : TkStp who ob row row1 w w1) (k : TkStp who ob row1 row2 w1 w2) : TkStp who ob row row2 w w2 := by
  refine ⟨k.os.trans h.os, k.tape.trans h.tape, k.output.trans h.output, Nat.le_trans h.size k.size, fun j hj hn ho hr => (k.block j (Nat.lt_of_lt_of_le hj h.size) hn ho ?_).trans (h.block j hj hn ho hr), ?_⟩
  · rcases h.row with e | ⟨g, e, hg⟩
    · rw [e]; exact hr
    · rw [e]; rintro ⟨⟩; omega
  · rcases k.row with e | ⟨g, e, hg⟩
    · rw [e]; exact h.row
    · exact .inr ⟨g, e, Nat.le_trans h.size hg⟩
/-- A step of the table alone. -/
theorem TkStp.of_stp (h : Stp who who w w') : TkStp who ob row row w w' := ⟨h.fr.os, h.fr.tape, h.fr.output, h.fr.size, fun j hj hn _ _ => h.fr.block j hj hn, .inl rfl⟩
theorem Tk.lt (h : Tk w B tb mn mh mk who cb S ob row zs) : ob < w.heap.size := (Array.getElem?_eq_some_iff.1 h.cel).1
theorem Tk.row_lt (h : Tk w B tb mn mh mk who cb S ob row zs) : ∀ g, row.ownBlock = some g → g < w.heap.size := fun g hg => (h.own.lt g hg).2
/-- A step of the table keeps the list. -/
theorem Tk.turn {S' : TS} (h : Tk w B tb mn mh mk who cb S ob row zs) (hs : Stp who who w w') (hT : Tb w' B tb mn mh mk who cb S') : Tk w' B tb mn mh mk who cb S' ob row zs :=
  ⟨hT, h.wob, (hs.fr.block ob h.lt h.wob).trans h.cel, row_keep h.own (fun g hg => hs.fr.block g (h.row_lt g hg) (h.sep g hg)), h.sep⟩
theorem Tk.low (h : Tk w B tb mn mh mk who cb S ob row zs) (hb : Below w.heap.size w w') : Tk w' B tb mn mh mk who cb S ob row zs := h.turn (Stp.of_below hb) (h.tb.low hb)
theorem Tk.ne (h : Tk w B tb mn mh mk who cb S ob row zs) : row.ownBlock ≠ some ob := fun e => by
  obtain ⟨_, cur, hc⟩ := ownsRow_type h.own ob e
  rw [h.cel] at hc
  simp at hc
/-- A number is put to the list. -/
theorem Tk.push {v' : Value} {z : Int} (h : Tk w B tb mn mh mk who cb S ob row zs) (hk : Kp row.ownBlock.toList w w1) (hr : w1.ownsRow B 3 1 v' (zs.length + 1) (zs.map (Value.int .i64) ++ [.int .i64 z]))
    (hg : v'.ownBlock = row.ownBlock ∨ ∃ g, v'.ownBlock = some g ∧ w.heap.size ≤ g) :
    Tk (w1.setCell ⟨ob, 0, none⟩ v') B tb mn mh mk who cb S ob v' (zs ++ [z]) ∧ TkStp who ob row v' w (w1.setCell ⟨ob, 0, none⟩ v') := by
  have hob : ob ∉ row.ownBlock.toList := fun hm => h.ne (by simpa using hm)
  have hb1 := (hk.block ob h.lt hob).trans h.cel
  have hv : v'.ownBlock ≠ some ob := by
    rcases hg with e | ⟨g, e, hge⟩
    · rw [e]; exact h.ne
    · rw [e]; rintro ⟨⟩; have := h.lt; omega
  have hkp : ∀ j, j < w.heap.size → j ≠ ob → row.ownBlock ≠ some j → (w1.setCell ⟨ob, 0, none⟩ v').heap[j]? = w.heap[j]? := fun j hj h1 h2 => (set_other w1 v' h1).trans (hk.block j hj (fun hm => h2 (by simpa using hm)))
  refine ⟨⟨?_, h.wob, (set_heap (i := 0) v' hb1).trans rfl, ?_, fun g hg' => ?_⟩, ⟨hk.os, hk.tape, hk.output, by rw [set_size]; exact hk.size, fun j hj _ h1 h2 => hkp j hj h1 h2, hg⟩⟩
  · exact h.tb.keep (by rw [set_size]; exact hk.size) (fun j hj => hkp j (h.tb.lo j hj).2 (by rintro rfl; exact hj h.wob) (fun e => hj (h.sep j e)))
  · rw [List.length_append, List.map_append]
    exact row_keep hr (fun g hg' => set_other w1 v' (by rintro rfl; exact hv hg'))
  · rcases hg with e | ⟨g', e, hge⟩
    · rw [e] at hg'; exact h.sep g hg'
    · rw [e] at hg'; cases hg'; exact h.tb.none_at hge
/-- What is beside the table and the list stays. -/
theorem TkStp.cell (h : TkStp who ob row row1 w w1) {p : Addr} {v : Value} (hp : w.cell? p = some v) (h1 : who p.block = none) (h2 : p.block ≠ ob) (h3 : row.ownBlock ≠ some p.block) : w1.cell? p = some v := by
  have := h.block p.block (World.block_lt_of_cell? w p hp) h1 h2 h3
  rw [World.cell?_of_block this]
  exact hp
end
end Go.Proofs.YtbbbenjakjejmaaGreat
namespace Go.Proofs.YtbbbenjakjejmaaGreat
set_option linter.unusedVariables false
set_option linter.unusedSimpArgs false
open Go.RowKit Go.MapKept Go.WideMaps
/-- A command of the reference. -/
structure RC where
  name : Bs
  hid : Bool
  there : Bool
  org : Nat
def RC.cells (r : RC) : List Value := [.string ⟨r.name.toArray⟩, .bool r.hid, .bool r.there, .int .i64 (r.org : Int)]
def rcs (l : List RC) : List Value := l.flatMap RC.cells
theorem rcs_cons (a : RC) (l : List RC) : rcs (a :: l) = .string ⟨a.name.toArray⟩ :: .bool a.hid :: .bool a.there :: .int .i64 (a.org : Int) :: rcs l := rfl
theorem rcs_len : ∀ l : List RC, (rcs l).length = l.length * 4
  | [] => rfl
  | a :: l => by rw [rcs_cons]; simp only [List.length_cons, rcs_len l]; omega
theorem rcs_snoc (l : List RC) (a : RC) : rcs (l ++ [a]) = rcs l ++ [.string ⟨a.name.toArray⟩, .bool a.hid, .bool a.there, .int .i64 (a.org : Int)] := by
  simp [rcs, RC.cells]
theorem rcs_at : ∀ (l : List RC) (i : Nat) (r : RC), l[i]? = some r → (rcs l)[i * 4]? = some (.string ⟨r.name.toArray⟩) ∧ (rcs l)[i * 4 + 1]? = some (.bool r.hid) ∧ (rcs l)[i * 4 + 2]? = some (.bool r.there) ∧ (rcs l)[i * 4 + 3]? = some (.int .i64 (r.org : Int))
  | [], _, _, h => by simp at h
  | a :: l, 0, r, h => by
    simp at h; subst h; rw [rcs_cons]; exact ⟨rfl, rfl, rfl, rfl⟩
  | a :: l, i + 1, r, h => by
    have ih := rcs_at l i r (by simpa using h)
    rw [rcs_cons, show (i + 1) * 4 = i * 4 + 1 + 1 + 1 + 1 from by omega]
    simp only [List.getElem?_cons_succ]
    exact ih
/-- What a change of a cell makes of the commands. -/
theorem rcs_set : ∀ (l : List RC) (i : Nat) (r : RC), l[i]? = some r → ∀ (r' : RC) (j : Nat) (x : Value), r.cells.set j x = r'.cells → j < 4 → (rcs l).set (i * 4 + j) x = rcs (l.set i r')
  | [], _, _, h, _, _, _, _, _ => by simp at h
  | a :: l, 0, r, h, r', j, x, hx, hj => by
    simp at h; subst h
    have e : rcs (r' :: l) = r'.cells ++ rcs l := rfl
    have e2 : rcs (a :: l) = a.cells ++ rcs l := rfl
    rw [List.set_cons_zero, e, e2, ← hx, Nat.zero_mul, Nat.zero_add, List.set_append, if_pos (by simpa [RC.cells] using hj)]
  | a :: l, i + 1, r, h, r', j, x, hx, hj => by
    have ih := rcs_set l i r (by simpa using h) r' j x hx hj
    rw [List.set_cons_succ, rcs_cons, rcs_cons, show (i + 1) * 4 + j = (i * 4 + j) + 1 + 1 + 1 + 1 from by omega]
    simp only [List.set_cons_succ]
    rw [ih]
section
variable {P : Program} {ops : Array Oper} {rest : List Oper} {o : Oper} {a : Act} {w : World} {Q : Exit → Act → World → Prop}
theorem row_newK (w : World) (ys : List Value) (e : TypeId) : ∀ j u, ys[j]? = some u → (w.alloc (.cells ys.toArray e)).cell? ((⟨w.heap.size, 0, none⟩ : Addr).add j) = some u := by
  intro j u hj
  have hb := heap_alloc_new w (.cells ys.toArray e)
  rw [show ((⟨w.heap.size, 0, none⟩ : Addr).add j) = ⟨w.heap.size, j, none⟩ from by cases j <;> simp [Addr.add]]
  simp only [World.cell?, hb]
  simpa using hj
theorem wpList_pushK1 (hgd : o.guard = none) (s xo : Operand) (t : TypeId) (ho : o.op = .call { callee := .builtin .append, args := #[s, xo], argTypes := #[t, t] })
    (base : Nat) (e : TypeId) (z : Value) (k bytes : Nat) (ht : P.underlying t = some (.slice e)) (hi : (P.info? e).map (fun i => (i.zero, i.size, i.bytes)) = some (some z, k, bytes)) (hz : z.cells.size = k) (hk : 0 < k)
    (v : Value) (n : Nat) (xs : List Value) (hs : a.eval s = v) (hown : w.ownsRow base e k v n xs)
    (ys : List Value) (hyl : ys.length = k) (m : Nat) (hm : w.heap.size = m) (hx : a.eval xo = .slice (some ⟨m, 0, none⟩) 1 1) (hy1 : ys.all (fun u => u.oneCell') = true)
    (hn : n + 1 ≤ maxLen) (hbytes : (n + 1) * bytes ≤ 140737488355328) (hbase : base ≤ w.heap.size)
    (h : ∀ g cap w', base ≤ g → w'.ownsRow base e k (.slice (some ⟨g, 0, none⟩) (n + 1) cap) (n + 1) (xs ++ ys) → Kp v.ownBlock.toList w w' → (v.ownBlock = some g ∨ w.heap.size ≤ g) → wpList P ops Q rest (a.put o.dst (.slice (some ⟨g, 0, none⟩) (n + 1) cap)) w') :
    wpList P ops Q (o :: rest) a (w.alloc (.cells ys.toArray e)) := by
  subst hm
  obtain ⟨i0, hi0, hz0, hz1, hz2⟩ := info_parts hi
  have hown1 := hown.alloc (.cells ys.toArray e)
  refine wpList_append_own_at _ hgd s xo t ho base e i0 z k bytes ht hi0 hz0 hz1 hz2 hz hk v n xs hs hown1 ⟨w.heap.size, 0, none⟩ 1 1 ys hx (by rw [hyl, Nat.one_mul]) (row_newK w ys e) (fun u hu => by simpa using List.all_eq_true.1 hy1 u hu) hn hbytes (by simp; omega) ?_
  intro v' w1 hown' hgrow hnil hloc
  have hk : Kp v.ownBlock.toList w w1 := ((Kp.refl _ w).alloc _).grown hgrow (fun b hb => by rw [hb]; simp)
  rcases hown'.2 with ⟨_, h0⟩ | ⟨g, cap, cur, rfl, hg, _⟩
  · omega
  · exact h g cap w1 hg hown' hk (by rcases hloc with e | e; exact .inl e.symm; exact .inr (by simp [Value.ownBlock] at e; omega))
end
/-- A table of the reference at yb, its row v. -/
structure Rf (w : World) (B yb : Nat) (l : List RC) (ep : Nat) (v : Value) : Prop where
  cel : w.heap[yb]? = some (.cells #[v, .int .i64 (ep : Int)] 49 (0, 0))
  own : w.ownsRow B 68 4 v l.length (rcs l)
  ne : v.ownBlock ≠ some yb
  lo : B ≤ yb
/-- But for the reference's blocks all stays. -/
abbrev RStp (yb : Nat) (v v' : Value) (w w' : World) : Prop := TkStp (fun _ => none) yb v v' w w'
section
variable {w w' : World} {B yb ep : Nat} {l : List RC} {v : Value}
theorem Rf.lt (h : Rf w B yb l ep v) : yb < w.heap.size := (Array.getElem?_eq_some_iff.1 h.cel).1
theorem Rf.cells (h : Rf w B yb l ep v) : w.cell? ⟨yb, 0, none⟩ = some v ∧ w.cell? ⟨yb, 1, none⟩ = some (.int .i64 (ep : Int)) ∧ ∀ i, w.frozen? ⟨yb, i, none⟩ = false := by
  have := h.cel
  exact ⟨by simp [World.cell?, this], by simp [World.cell?, this], fun i => by simp [World.frozen?, this]⟩
theorem Rf.keep (h : Rf w B yb l ep v) (h1 : w'.heap[yb]? = w.heap[yb]?) (h2 : ∀ g, v.ownBlock = some g → w'.heap[g]? = w.heap[g]?) : Rf w' B yb l ep v := by
  refine ⟨h1.trans h.cel, ⟨h.own.1, ?_⟩, h.ne, h.lo⟩
  rcases h.own.2 with h0 | ⟨g, cap, cur, rfl, hb, hg, rest⟩
  · exact .inl h0
  · exact .inr ⟨g, cap, cur, rfl, hb, (h2 g rfl).trans hg, rest⟩
theorem Rf.row_lt (h : Rf w B yb l ep v) : ∀ g, v.ownBlock = some g → B ≤ g ∧ g < w.heap.size := by
  intro g hg
  rcases h.own.2 with ⟨rfl, _⟩ | ⟨g', cap, cur, rfl, hb, hg', rest⟩
  · simp [Value.ownBlock] at hg
  · simp [Value.ownBlock] at hg; subst hg; exact ⟨hb, (Array.getElem?_eq_some_iff.1 hg').1⟩
theorem Rf.low (h : Rf w B yb l ep v) (hb : Below w.heap.size w w') : Rf w' B yb l ep v := h.keep (hb.block yb h.lt) (fun g hg => hb.block g (h.row_lt g hg).2)
theorem Rf.shape (h : Rf w B yb l ep v) : ∃ o cap, v = .slice o l.length cap := by
  rcases h.own.2 with ⟨rfl, h0⟩ | ⟨g, cap, cur, rfl, _⟩
  · rw [h0]; exact ⟨_, _, rfl⟩
  · exact ⟨_, _, rfl⟩
theorem Rf.at_ (h : Rf w B yb l ep v) {i : Nat} {r : RC} (hi : l[i]? = some r) : ∃ g cap, v = .slice (some ⟨g, 0, none⟩) l.length cap ∧ g < w.heap.size ∧
    w.cell? ⟨g, i * 4, none⟩ = some (.string ⟨r.name.toArray⟩) ∧ w.cell? ⟨g, i * 4 + 1, none⟩ = some (.bool r.hid) ∧ w.cell? ⟨g, i * 4 + 2, none⟩ = some (.bool r.there) ∧ w.cell? ⟨g, i * 4 + 3, none⟩ = some (.int .i64 (r.org : Int)) ∧ ∀ j, w.frozen? ⟨g, j, none⟩ = false := by
  have hil := (List.getElem?_eq_some_iff.1 hi).1
  rcases h.own.2 with ⟨rfl, h0⟩ | ⟨g, cap, cur, rfl, hb, hg, hc, hm, hs, ht⟩
  · omega
  · obtain ⟨e0, e1, e2, e3⟩ := rcs_at l i r hi
    have key : ∀ j x, j < l.length * 4 → (rcs l)[j]? = some x → w.cell? ⟨g, j, none⟩ = some x := fun j x hj hx => by
      rw [← ht, List.getElem?_take, if_pos hj] at hx
      simp only [World.cell?, hg]
      simpa using hx
    refine ⟨g, cap, rfl, (Array.getElem?_eq_some_iff.1 hg).1, key _ _ (by omega) e0, key _ _ (by omega) e1, key _ _ (by omega) e2, key _ _ (by omega) e3, fun j => by simp [World.frozen?, hg]⟩
/-- A cell of a command is put. -/
theorem Rf.setCell {o : Option Addr} {n c g : Nat} (h : Rf w B yb l ep (.slice (some ⟨g, 0, none⟩) n c)) {i : Nat} {r r' : RC} (hi : l[i]? = some r) (j : Nat) (x : Value) (hx : r.cells.set j x = r'.cells) (hj : j < 4) :
    Rf (w.setCell ⟨g, i * 4 + j, none⟩ x) B yb (l.set i r') ep (.slice (some ⟨g, 0, none⟩) n c) ∧ RStp yb (.slice (some ⟨g, 0, none⟩) n c) (.slice (some ⟨g, 0, none⟩) n c) w (w.setCell ⟨g, i * 4 + j, none⟩ x) := by
  have hil := (List.getElem?_eq_some_iff.1 hi).1
  have hne : yb ≠ g := fun e => h.ne (by simp [Value.ownBlock, e])
  have hoth : ∀ j', j' ≠ g → (w.setCell ⟨g, i * 4 + j, none⟩ x).heap[j']? = w.heap[j']? := fun j' hj' => set_other w x hj'
  refine ⟨⟨(hoth yb hne).trans h.cel, ⟨by rw [rcs_len], ?_⟩, h.ne, h.lo⟩, ⟨rfl, rfl, rfl, by rw [set_size]; exact Nat.le_refl _, fun j' hj' _ _ hr => hoth j' (fun e => hr (by simp [Value.ownBlock, e])), .inl rfl⟩⟩
  rcases h.own.2 with ⟨h0, _⟩ | ⟨g', cap, cur, e, hb, hg, hc, hm, hs, ht⟩
  · cases h0
  · cases e
    refine .inr ⟨g, c, cur.setIfInBounds (i * 4 + j) x, by rw [List.length_set], hb, set_heap x hg, by rw [List.length_set]; exact hc, hm, by simpa using hs, ?_⟩
    rw [List.length_set, ← rcs_set l i r hi r' j x hx hj, ← ht, Array.toList_setIfInBounds, List.take_set]
/-- The epoch is put. -/
theorem Rf.setEp (h : Rf w B yb l ep v) (e' : Nat) : Rf (w.setCell ⟨yb, 1, none⟩ (.int .i64 (e' : Int))) B yb l e' v ∧ RStp yb v v w (w.setCell ⟨yb, 1, none⟩ (.int .i64 (e' : Int))) := by
  have hoth : ∀ j', j' ≠ yb → (w.setCell ⟨yb, 1, none⟩ (.int .i64 (e' : Int))).heap[j']? = w.heap[j']? := fun j' hj' => set_other w _ hj'
  refine ⟨⟨?_, ?_, h.ne, h.lo⟩, ⟨rfl, rfl, rfl, by rw [set_size]; exact Nat.le_refl _, fun j' _ _ ho _ => hoth j' ho, .inl rfl⟩⟩
  · have := set_heap (i := 1) (.int .i64 (e' : Int)) h.cel
    rw [this]; rfl
  · refine ⟨h.own.1, ?_⟩
    rcases h.own.2 with h0 | ⟨g, cap, cur, rfl, hb, hg, rest⟩
    · exact .inl h0
    · exact .inr ⟨g, cap, cur, rfl, hb, (hoth g (fun e => h.ne (by simp [Value.ownBlock, e]))).trans hg, rest⟩
/-- A command is pushed, the row is put. -/
theorem Rf.push {w1 : World} {g n c : Nat} (h : Rf w B yb l ep v) (r : RC) (hk : Kp v.ownBlock.toList w w1) (hl : v.ownBlock = some g ∨ w.heap.size ≤ g)
    (ho : w1.ownsRow B 68 4 (.slice (some ⟨g, 0, none⟩) n c) n (rcs (l ++ [r]))) (hn : l.length + 1 = n) :
    Rf (w1.setCell ⟨yb, 0, none⟩ (.slice (some ⟨g, 0, none⟩) n c)) B yb (l ++ [r]) ep (.slice (some ⟨g, 0, none⟩) n c) ∧ RStp yb v (.slice (some ⟨g, 0, none⟩) n c) w (w1.setCell ⟨yb, 0, none⟩ (.slice (some ⟨g, 0, none⟩) n c)) := by
  have hlt := h.lt
  have hne : g ≠ yb := by
    rintro rfl
    rcases hl with e | e
    · exact h.ne e
    · omega
  have hoth : ∀ j', j' ≠ yb → (w1.setCell ⟨yb, 0, none⟩ (.slice (some ⟨g, 0, none⟩) n c)).heap[j']? = w1.heap[j']? := fun j' hj' => set_other w1 _ hj'
  have hcel : w1.heap[yb]? = some (.cells #[v, .int .i64 (ep : Int)] 49 (0, 0)) := (hk.block yb hlt (fun hm => h.ne (by simpa using hm))).trans h.cel
  refine ⟨⟨?_, ?_, fun e => hne (by simpa [Value.ownBlock] using e), h.lo⟩, ⟨hk.os, hk.tape, hk.output, by rw [set_size]; exact hk.size, fun j' hj' _ h1 h2 => (hoth j' h1).trans (hk.block j' hj' (fun hm => h2 (by simpa using hm))), ?_⟩⟩
  · have := set_heap (i := 0) (.slice (some ⟨g, 0, none⟩) n c) hcel
    rw [this]; rfl
  · rw [show (l ++ [r]).length = n from by simp; exact hn]
    refine ⟨ho.1, ?_⟩
    rcases ho.2 with h0 | ⟨g', cap, cur, e, hb, hg, rest⟩
    · exact .inl h0
    · cases e
      exact .inr ⟨g, c, cur, rfl, hb, (hoth g hne).trans hg, rest⟩
  · rcases hl with e | e
    · exact .inl (by rw [e]; rfl)
    · exact .inr ⟨g, rfl, e⟩
end
end Go.Proofs.YtbbbenjakjejmaaGreat

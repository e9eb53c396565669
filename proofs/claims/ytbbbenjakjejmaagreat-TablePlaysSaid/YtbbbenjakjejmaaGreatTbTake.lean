/- The recursive closure of 'take'. -/
import Derived.Test.YtbbbenjakjejmaaGreatTbFun
import Derived.Test.YtbbbenjakjejmaaGreatPush
import Derived.Deep.RegionLaw
import Derived.Deep.RegionHeld3
import Derived.Deep.LoopGhost
namespace Go.Proofs.YtbbbenjakjejmaaGreat
set_option linter.unusedVariables false
set_option linter.unusedSimpArgs false
open Go.RowKit Go.MapKept Go.WideMaps

theorem step_append_one {P : Program} {ops : Array Oper} {o : Oper} {a : Act} {w : World} {K : Act → World → Prop} {Q : Exit → Act → World → Prop} {E : Prop}
    (hg : o.guard = none) (s xo : Operand) (t : TypeId) (hop : o.op = Op.call { callee := Callee.builtin Builtin.append, args := #[s, xo], argTypes := #[t, t] })
    (base : Nat) (e : TypeId) (z : Value) (bytes : Nat) (ht : P.underlying t = some (.slice e)) (hi : (P.info? e).map (fun i => (i.zero, i.size, i.bytes)) = some (some z, 1, bytes)) (hz : z.cells.size = 1)
    (v : Value) (n : Nat) (xs : List Value) (hs : a.eval s = v) (w0 : World) (hown : w0.ownsRow base e 1 v n xs)
    (x : Value) (hw : w = w0.alloc (.cells #[x] e)) (hx : a.eval xo = .slice (some ⟨w0.heap.size, 0, none⟩) 1 1) (hx1 : x.oneCell' = true)
    (hn : n + 1 ≤ maxLen) (hbytes : (n + 1) * bytes ≤ 140737488355328) (hbase : base ≤ w0.heap.size)
    (hK : ∀ g cap w', base ≤ g → w'.ownsRow base e 1 (.slice (some ⟨g, 0, none⟩) (n + 1) cap) (n + 1) (xs ++ [x]) → Kp v.ownBlock.toList w0 w' → (v.ownBlock = some g ∨ w0.heap.size ≤ g) → K (a.put o.dst (.slice (some ⟨g, 0, none⟩) (n + 1) cap)) w') :
    if Region.wanted o (yielded ops a.tmps) = true then Oper.wp P o a w K Q else E := by
  subst hw
  have hwn : Region.wanted o (yielded ops a.tmps) = true := by simp [Region.wanted, hg]
  rw [if_pos hwn]
  obtain ⟨i0, hi0, hz0, hz1, hz2⟩ := info_parts hi
  obtain ⟨v', w', hrun, r1, r2, _, hloc⟩ := run_append_own_at (P := P) (w := w0.alloc (.cells #[x] e)) base t o.type e i0 z 1 bytes ht hi0 hz0 hz1 hz2 hz (by decide) v n xs (hown.alloc (.cells #[x] e)) ⟨w0.heap.size, 0, none⟩ 1 1 [x] rfl (fun j u hj => row_new w0 [x] e j u hj) (fun u hu => by rw [List.mem_singleton.1 hu]; exact hx1) hn hbytes (by simp; omega)
  unfold Oper.wp
  simp [execOp, hop, resolve, invoke, builtin, hs, hx, hrun, Result.andThen]
  have hk : Kp v.ownBlock.toList w0 w' := ((Kp.refl _ w0).alloc _).grown r2 (fun b hb => by rw [hb]; simp)
  rcases r1.2 with ⟨_, h0⟩ | ⟨g, cap, cur, rfl, hg', _⟩
  · omega
  · exact hK g cap w' hg' r1 hk (by rcases hloc with e | e; exact .inl e.symm; exact .inr (by simp [Value.ownBlock] at e; omega))
theorem nat_wf {n : Nat} (h : n ≤ 1000000) : (Lit.int .i64 (n : Int)).wf = true := by
  have e1 : IntKind.i64.min = -9223372036854775808 := by decide
  have e2 : IntKind.i64.max = 9223372036854775807 := by decide
  simp [Lit.wf, e1, e2]; omega
theorem infoI : (Tryz.prog.info? 3).map (fun i => (i.zero, i.size, i.bytes)) = some (some (.int .i64 0), 1, 8) := by kernel_rfl
/-- A frame and a world that are of a kind. -/
def Mid {α : Type} (F : α → Act) (R : α → World → Prop) (a : Act) (w : World) : Prop := ∃ x, a = F x ∧ R x w
/-- The boxes of 'take': the closure's own, the table's. -/
structure Bx (w : World) (ob fb xb tb : Nat) : Prop where
  f : w.heap[fb]? = some (.cells #[.func (.func 57) #[] #[.pointer (some ⟨ob, 0, none⟩), .pointer (some ⟨fb, 0, none⟩), .pointer (some ⟨xb, 0, none⟩)]] 79 (0, 0))
  x : w.heap[xb]? = some (.cells #[.pointer (some ⟨tb, 0, none⟩)] 25 (0, 0))
theorem Bx.low {w w' : World} {ob fb xb tb : Nat} (h : Bx w ob fb xb tb) (hb : Below w.heap.size w w') : Bx w' ob fb xb tb :=
  ⟨(hb.block fb (Array.getElem?_eq_some_iff.1 h.f).1).trans h.f, (hb.block xb (Array.getElem?_eq_some_iff.1 h.x).1).trans h.x⟩
theorem below_drewN {B : Nat} {a w : World} (h : Below B a w) (n : Nat) : Below B a (w.drewN n) := h.trans ⟨rfl, rfl, rfl, Nat.le_refl _, fun _ _ => rfl⟩
theorem int_row_ne {w : World} {B : Nat} {v : Value} {n : Nat} {xs : List Value} (h : w.ownsRow B 3 1 v n xs) {b : Nat} {cs : Array Value} {t : TypeId} (hb : w.heap[b]? = some (.cells cs t (0, 0))) (ht : t ≠ 3) : v.ownBlock ≠ some b := fun e => by
  obtain ⟨_, cur, hc⟩ := ownsRow_type h b e
  rw [hb] at hc
  simp at hc
  exact ht hc.2
section
variable {B tb mn mh mk ob fb xb : Nat} {who : Own} {cb : Nat → Nat}
theorem Bx.stp {w w' : World} {S : TS} {row row' : Value} {zs : List Int} (h : Bx w ob fb xb tb) (hT : Tk w B tb mn mh mk who cb S ob row zs) (hw : who fb = none ∧ who xb = none ∧ fb ≠ ob ∧ xb ≠ ob) (hs : TkStp who ob row row' w w') : Bx w' ob fb xb tb :=
  ⟨(hs.block fb (Array.getElem?_eq_some_iff.1 h.f).1 hw.1 hw.2.2.1 (int_row_ne hT.own h.f (by decide))).trans h.f,
   (hs.block xb (Array.getElem?_eq_some_iff.1 h.x).1 hw.2.1 hw.2.2.2 (int_row_ne hT.own h.x (by decide))).trans h.x⟩
set_option maxRecDepth 100000 in
set_option maxHeartbeats 3200000 in
theorem take1_any (hw0 : who fb = none ∧ who xb = none ∧ fb ≠ ob ∧ xb ≠ ob) : ∀ (m : Nat) (S : TS) (n : Nat) (c : Cm) (w : World) (row : Value) (zs : List Int), WF S → S.last ≤ 900000 → S.last + 1 ≤ n + m → S.cm n = some c → Tk w B tb mn mh mk who cb S ob row zs → zs.length + S.cnt ≤ 2000000 + n → Bx w ob fb xb tb →
    Calls Tryz.prog 57 #[ptrC (cb n), .pointer (some ⟨ob, 0, none⟩), .pointer (some ⟨fb, 0, none⟩), .pointer (some ⟨xb, 0, none⟩)] w fun e w' => e = .returned (.tuple #[]) ∧ ∃ S' L row', Gone S n L S' ∧ Tk w' B tb mn mh mk who cb S' ob row' (zs ++ L.map (fun k : Nat => (k : Int))) ∧ TkStp who ob row row' w w' := by
  intro m
  induction m with
  | zero =>
    intro S n c w row zs hW hl hm hc
    have := (hW.pos n c hc).2
    omega
  | succ m ih =>
    intro S n c w row zs hW hl hm hc hT hz hB
    have IH := Lib.hid ih
    have hcnt := hW.imp_len hc
    have hn1 := (hW.pos n c hc).1
    have hn2 := (hW.pos n c hc).2
    have hcp : 1 ≤ S.cnt := by
      have : n ∈ S.keys := (hW.mem_keys n).2 (by rw [hc]; rfl)
      exact List.length_pos_of_mem this
    -- the world behind the box of c
    have HT := Lib.hid (And.intro hT (And.intro hB hW))
    obtain ⟨ro, rc, hro⟩ : ∃ ro rc, row = .slice ro zs.length rc := by
      rcases hT.own.2 with ⟨rfl, h0⟩ | ⟨g, cap, cur, rfl, _⟩
      · rw [h0]; exact ⟨_, _, rfl⟩
      · exact ⟨_, _, rfl⟩
    subst hro
    have hb0 : Below w.heap.size w (w.alloc (.cells #[ptrC (cb n)] 60)) := (Below.refl _ w).alloc (Nat.le_refl _) _
    have hT1 := hT.low hb0
    have hB1 := hB.low hb0
    have hbx : (w.alloc (.cells #[ptrC (cb n)] 60)).heap[w.heap.size]? = some (.cells #[ptrC (cb n)] 60 (0, 0)) := heap_alloc_new w _
    have HB0 := Lib.hid hb0
    obtain ⟨W, hWd⟩ : ∃ W, w.alloc (.cells #[ptrC (cb n)] 60) = W := ⟨_, rfl⟩
    obtain ⟨b, hbd⟩ : ∃ b, w.heap.size = b := ⟨_, rfl⟩
    have hbW : W.heap.size = b + 1 := by rw [← hWd, ← hbd]; simp
    obtain ⟨zn, hzn⟩ : ∃ zn, zs.length = zn := ⟨_, rfl⟩
    have hwb : who b = none := by rw [← hbd]; exact hT.tb.none_at (Nat.le_refl _)
    have hbo : b ≠ ob := by have := hT.lt; omega
    have HW : Hid (w.alloc (.cells #[ptrC (cb n)] 60) = W ∧ zs.length = zn ∧ w.heap.size = b) := ⟨hWd, hzn, hbd⟩
    have PUSH : Hid (∀ w5, Below W.heap.size W w5 → ∀ w6 g k, Kp (Value.slice ro zn rc).ownBlock.toList w5 w6 → w6.ownsRow B 3 1 (.slice (some ⟨g, 0, none⟩) (zn + 1) k) (zn + 1) (zs.map (Value.int .i64) ++ [.int .i64 (n : Int)]) → ((Value.slice ro zn rc).ownBlock = some g ∨ w5.heap.size ≤ g) →
        Tk (w6.setCell ⟨ob, 0, none⟩ (.slice (some ⟨g, 0, none⟩) (zn + 1) k)) B tb mn mh mk who cb S ob (.slice (some ⟨g, 0, none⟩) (zn + 1) k) (zs ++ [(n : Int)]) ∧ TkStp who ob (.slice ro zn rc) (.slice (some ⟨g, 0, none⟩) (zn + 1) k) W (w6.setCell ⟨ob, 0, none⟩ (.slice (some ⟨g, 0, none⟩) (zn + 1) k)) ∧
          w6.cell? ⟨ob, 0, none⟩ = some (.slice ro zn rc) ∧ w6.frozen? ⟨ob, 0, none⟩ = false) := fun w5 h5 w6 g k hk hr hg => by
      subst hzn
      rw [hWd] at hT1
      have hT5 := hT1.low h5
      have hb6 : w6.heap[ob]? = some (.cells #[.slice ro zs.length rc] 32 (0, 0)) := (hk.block ob hT5.lt (fun hm => hT5.ne (by simpa using hm))).trans hT5.cel
      obtain ⟨p1, p2⟩ := hT5.push hk hr (by rcases hg with e | e; exact .inl (by rw [e]; rfl); exact .inr ⟨g, rfl, e⟩)
      exact ⟨p1, (TkStp.of_stp (Stp.of_below h5)).trans p2, by simp [World.cell?, hb6], by simp [World.frozen?, hb6]⟩
    rw [hWd] at hT1 hB1 hbx
    have OWN : Hid (∀ w5, Below W.heap.size W w5 → w5.ownsRow B 3 1 (.slice ro zn rc) zn (zs.map (Value.int .i64)) ∧ B ≤ w5.heap.size) := fun w5 h5 => by
      subst hzn
      exact ⟨(hT1.low h5).own, (hT1.low h5).tb.base⟩
    obtain ⟨q0, q1, q2, q3, ⟨io, ic, q4, _⟩, qf⟩ := (hT1.tb.cmd n c hc).cells
    have o0 : W.cell? ⟨ob, 0, none⟩ = some (.slice ro zn rc) := by rw [← hzn]; simp [World.cell?, hT1.cel]
    have x0 : W.cell? ⟨b, 0, none⟩ = some (.pointer (some ⟨cb n, 0, none⟩)) := by rw [← hbd]; simp [World.cell?, hbx, ptrC]
    have hzb : zn ≤ 3000000 := by omega
    have HCE : Hid (∀ w5, Below W.heap.size W w5 → w5.cell? ⟨ob, 0, none⟩ = some (.slice ro zn rc) ∧ w5.cell? ⟨b, 0, none⟩ = some (.pointer (some ⟨cb n, 0, none⟩)) ∧ w5.cell? ⟨cb n, 0, none⟩ = some (.int .i64 (n : Int))) := fun w5 h5 =>
      ⟨(h5.cell (p := ⟨ob, 0, none⟩) hT1.lt).trans o0, (h5.cell (p := ⟨b, 0, none⟩) (by show b < _; omega)).trans x0, (h5.cell (p := ⟨cb n, 0, none⟩) (World.block_lt_of_cell? _ _ q0)).trans q0⟩
    have o1 := (HCE.out (W.alloc (.cells #[.int .i64 (n : Int)] 3)) ((Below.refl _ _).alloc (Nat.le_refl _) _)).1
    have HN : Hid (S.last ≤ 900000 ∧ S.last + 1 ≤ n + (m + 1) ∧ S.cm n = some c ∧ zn + S.cnt ≤ 2000000 + n ∧ b + 1 = W.heap.size ∧ who b = none ∧ b ≠ ob ∧ B ≤ b) := ⟨hl, hm, hc, by omega, hbW.symm, hwb, hbo, by rw [← hbd]; exact hT.tb.base⟩
    have HX : Hid (W.heap[b]? = some (.cells #[ptrC (cb n)] 60 (0, 0)) ∧ Bx W ob fb xb tb) := by
      refine ⟨?_, hB1⟩
      rw [← hbd]; exact hbx
    unfold ptrC at hWd ⊢
    clear hl hm hc hz hbW hwb hbo ih hT hB hW hT1 hB1 hbx hb0 hcnt hn1 hn2 hcp q1 q2 q3 q4 qf
    go_enter Tryz.func57, Tryz.ntmps57
    go_wp2_with fail
    refine wp_mono (Q := Exit.then (Mid (fun x : Nat × Nat => ⟨#[.pointer (some ⟨cb n, 0, none⟩), .pointer (some ⟨ob, 0, none⟩), .pointer (some ⟨fb, 0, none⟩), .pointer (some ⟨xb, 0, none⟩), .pointer (some ⟨b, 0, none⟩), .slice ro zn rc, .pointer (some ⟨cb n, 0, none⟩), .pointer (some ⟨cb n, 0, none⟩), .pointer (some ⟨cb n, 0, none⟩), .int .i64 (n : Int), .slice (some ⟨W.heap.size, 0, none⟩) 1 1, .slice (some ⟨x.1, 0, none⟩) (zn + 1) x.2, undef, undef, undef, undef, undef, undef, undef, undef, undef, undef, undef, undef, undef, undef, undef, undef, undef, undef, undef, undef, undef, undef, undef, undef, undef, undef, undef, undef, undef, undef, undef, undef, undef, undef, undef, undef, undef, undef, undef, undef, undef, undef, undef, undef, undef, undef, undef, undef, undef, undef, undef, undef], []⟩) (fun x W1 => Hid (Tk W1 B tb mn mh mk who cb S ob (.slice (some ⟨x.1, 0, none⟩) (zn + 1) x.2) (zs ++ [(n : Int)]) ∧ TkStp who ob (.slice ro zn rc) (.slice (some ⟨x.1, 0, none⟩) (zn + 1) x.2) W W1))) (fun _ _ _ => False)) ?_ (fun e a' W1 h => ?_)
    · go_region_law (refine step_append_one rfl (.tmp 5) (.tmp 10) 32 rfl B 3 (.int .i64 0) 8 Tryz.underlying32 infoI rfl (.slice ro zn rc) zn _ (by simp [Act.eval, Act.put]) (World.drew _) (OWN.out _ ((Below.refl _ _).drew)).1 (.int .i64 (n : Int)) rfl (by simp [Act.eval, Act.put]) rfl (by unfold maxLen; omega) (by omega) (OWN.out _ ((Below.refl _ _).drew)).2 ?_; intro g c6 w6 hg6 hr6 hk6 hl6; obtain ⟨hp1, hp2, hx6, hf6⟩ := PUSH.out _ ((Below.refl _ _).drew) w6 g c6 hk6 hr6 hl6; have HP6 := Lib.hid (And.intro hp1 hp2); clear hp1 hp2 hg6 hr6 hk6 hl6)
      all_goals exact ⟨(g, c6), rfl, HP6⟩
    obtain rfl : e = .normal := by cases e <;> first | rfl | exact h.elim
    obtain ⟨⟨g, c6⟩, rfl, HP⟩ := h
    dsimp only
    have HBX : Hid (Bx W1 ob fb xb tb ∧ W1.heap[b]? = some (.cells #[ptrC (cb n)] 60 (0, 0))) := by
      have hTW : Tk W B tb mn mh mk who cb S ob (.slice ro zn rc) zs := by
        have h1 := HT.out.1.low HB0.out
        rw [HW.out.1, HW.out.2.1] at h1
        exact h1
      refine ⟨HX.out.2.stp hTW hw0 HP.out.2, ?_⟩
      refine (HP.out.2.block b (by have := HN.out; omega) HN.out.2.2.2.2.2.1 HN.out.2.2.2.2.2.2.1 (int_row_ne hTW.own HX.out.1 (by decide))).trans HX.out.1
    clear x0 q0 o0 o1 HCE OWN PUSH hWd hbd hzn
    go_wp2_with fail
    go_loopg [] c.imp.length (fun g wr => ∃ (S1 : TS) (L1 rest : List Nat) (row1 : Value), rest.length = g ∧ Part S n c L1 S1 rest ∧ Tk wr B tb mn mh mk who cb S1 ob row1 (zs ++ (n :: L1).map (fun k : Nat => (k : Int))) ∧ TkStp who ob (.slice ro zn rc) row1 W wr ∧ Bx wr ob fb xb tb ∧ wr.heap[b]? = some (.cells #[ptrC (cb n)] 60 (0, 0)))
    case atStart => exact ⟨S, [], c.imp, _, rfl, part_start HT.out.2.2 HN.out.2.2.1, by simpa using HP.out.1, HP.out.2, HBX.out.1, HBX.out.2⟩
    case round =>
      obtain ⟨S1, L1, rest, row1, hg, hP, hTk, hSt, hBx, hbb⟩ := hrel
      have HR := Lib.hid (And.intro hP (And.intro hTk (And.intro hSt (And.intro hBx hbb))))
      obtain ⟨q0, q1, q2, q3, ⟨io, ic, q4, hrow, hid⟩, qf⟩ := (hTk.tb.cmd n _ hP.at_).cells
      simp only at q1 q2 q3 q4 hrow hid
      have x0 : wr.cell? ⟨b, 0, none⟩ = some (.pointer (some ⟨cb n, 0, none⟩)) := by simp [World.cell?, hbb, ptrC]
      cases rest with
      | cons ch rest =>
        obtain ⟨d, hd, hdo, hlt, hdS⟩ := hP.head
        obtain ⟨gb, c', e, h1, h2, h3⟩ := row_some hrow (by simp)
        cases e
        have he : wr.cell? ⟨gb, 0, none⟩ = some (.pointer (some ⟨cb ch, 0, none⟩)) := by
          have := hrow.cellAt 0 (by simp)
          simpa [ptrC] using this
        have f0 : wr.cell? ⟨fb, 0, none⟩ = some (.func (.func 57) #[] #[.pointer (some ⟨ob, 0, none⟩), .pointer (some ⟨fb, 0, none⟩), .pointer (some ⟨xb, 0, none⟩)]) := by simp [World.cell?, hBx.f]
        have hcn := hP.cnt HT.out.2.2 HN.out.2.2.1
        have hla := hP.last
        have CL : Hid (∀ W', Below wr.heap.size wr W' → Calls Tryz.prog 57 #[.pointer (some ⟨cb ch, 0, none⟩), .pointer (some ⟨ob, 0, none⟩), .pointer (some ⟨fb, 0, none⟩), .pointer (some ⟨xb, 0, none⟩)] W' fun e w' => e = .returned (.tuple #[]) ∧ ∃ S2 L2 row2, Gone S1 ch L2 S2 ∧ Tk w' B tb mn mh mk who cb S2 ob row2 ((zs ++ (n :: L1).map (fun k : Nat => (k : Int))) ++ L2.map (fun k : Nat => (k : Int))) ∧ TkStp who ob row1 row2 W' w') := fun W' hb =>
          IH.out S1 ch d W' row1 _ hP.wf (by have := HN.out.1; omega) (by have := HN.out.2.1; omega) hd (hTk.low hb) (by have h1 := HW.out.2.1; have h2 := HN.out.2.2.2.1; simp; omega) (hBx.low hb)
        obtain ⟨rn, hrn⟩ : ∃ rn, (ch :: rest).length = rn := ⟨_, rfl⟩
        have hr0 : 0 < rn := by rw [← hrn]; simp
        rw [hrn] at q4
        have t0 : decide ((0 : Int) < (rn : Int)) = true := by rw [decide_eq_true_eq]; omega
        have HG := Lib.hid (And.intro hg hlt)
        clear hP hTk hSt hBx hbb hrow hid hd hdo hlt hdS h1 h2 h3 hcn hla hrn hg q0 q1 q2 q3 qf
        go_wp2_with fail
        go_region_with (go_at_call 57; refine (CL.out _ (by exact (Below.refl _ _).drew)).mono ?_; rintro e w2 ⟨rfl, h2⟩; have H2 := Lib.hid h2; clear h2)
        all_goals
          go_wp2_with fail
          go_roundg (gk - 1)
          case measure => have := HG.out.1; simp at this; omega
          case rel =>
            obtain ⟨S2, L2, row2, hG, hT2, hS2⟩ := H2.out
            obtain ⟨hP, hTk, hSt, hBx, hbb⟩ := HR.out
            have hS3 : TkStp who ob row1 row2 wr w2 := (TkStp.of_stp (Stp.of_below ((Below.refl _ _).drew))).trans hS2
            refine ⟨S2, L1 ++ L2, rest, row2, by have := HG.out.1; simp at this; omega, hP.step hG, ?_, hSt.trans hS3, hBx.stp hTk hw0 hS3, ?_⟩
            · have e : zs ++ (n :: (L1 ++ L2)).map (fun k : Nat => (k : Int)) = (zs ++ (n :: L1).map (fun k : Nat => (k : Int))) ++ L2.map (fun k : Nat => (k : Int)) := by simp
              rw [e]; exact hT2
            · exact (hS3.block b (Array.getElem?_eq_some_iff.1 hbb).1 HN.out.2.2.2.2.2.1 HN.out.2.2.2.2.2.2.1 (int_row_ne hTk.own hbb (by decide))).trans hbb
      | nil =>
        obtain rfl : gk = 0 := by simpa using hg.symm
        simp only [List.length_nil] at q4
        have hnl := HT.out.2.2.len n c HN.out.2.2.1
        by_cases hoz : c.org = 0
        · have hS5 : ({ S1 with nm := fun h' k' => if h' = c.hid ∧ k' = c.name then none else S1.nm h' k', cm := fun k => if k = n then none else S1.cm k } : TS) = delT S1 n { c with imp := [] } := by
            unfold delT
            simp only [TS.mk.injEq, true_and, and_true]
            funext k
            by_cases e : k = n
            · rw [if_pos e, if_pos e]
            · rw [if_neg e, if_neg e]
              cases hk : S1.cm k with
              | none => rfl
              | some d =>
                rw [Option.map_some, dropI_self (fun hm => by
                  obtain ⟨d', hd', ho'⟩ := hP.wf.imp k d hk n hm
                  rw [hP.at_] at hd'
                  cases hd'
                  have := (hP.wf.pos k d hk).1
                  simp only at ho'
                  omega)]
          rw [hoz] at q3
          unfold ptrO at q3
          simp only [if_true] at q3
          have E6 : Hid (Gone S n (n :: L1) { S1 with nm := fun h' k' => if h' = c.hid ∧ k' = c.name then none else S1.nm h' k', cm := fun k => if k = n then none else S1.cm k }) := by
            show Gone _ _ _ _
            rw [hS5]; exact hP.done HT.out.2.2 HN.out.2.2.1
          obtain ⟨S5, hS5e⟩ : ∃ S5, S5 = S1 := ⟨_, rfl⟩
          obtain ⟨W5, hW5⟩ : ∃ W5, W5 = wr := ⟨_, rfl⟩
          have E1 : Hid (Tk W5 B tb mn mh mk who cb S5 ob row1 (zs ++ (n :: L1).map (fun k : Nat => (k : Int))) ∧ Bx W5 ob fb xb tb ∧ W5.heap[b]? = some (.cells #[ptrC (cb n)] 60 (0, 0)) ∧ TkStp who ob (.slice ro zn rc) row1 W W5 ∧ S5.cm n = some { c with imp := [] }) := by
            subst hS5e hW5
            exact ⟨hTk, hBx, hbb, hSt, hP.at_⟩
          clear hP hTk hSt hBx hbb hrow hid hg hS5 HR
          go_wp2_with fail
          rw [← hS5e] at E6
          rw [← hW5]
          clear q0 q1 q2 q3 q4 qf x0 hW5 hS5e
          obtain ⟨p0, p1, p2, _⟩ := (E1.out.1.tb.cmd n _ E1.out.2.2.2.2).cells
          simp only at p1 p2
          have hb1 : W5.cell? ⟨b, 0, none⟩ = some (.pointer (some ⟨cb n, 0, none⟩)) := by simp [World.cell?, E1.out.2.2.1, ptrC]
          have hx1 : W5.cell? ⟨xb, 0, none⟩ = some (.pointer (some ⟨tb, 0, none⟩)) := by simp [World.cell?, E1.out.2.1.x]
          have hT5 := E1.out.1.low ((Below.refl _ _).drew)
          obtain ⟨w6, hdel, hTb6, hSt6⟩ := hT5.tb.delName (ty := 0) c.hid (k := c.name) (by unfold maxLen; omega)
          have hT6 := hT5.turn hSt6 hTb6
          have hBl6 : TkStp who ob row1 row1 W5 w6 := (TkStp.of_stp (Stp.of_below ((Below.refl _ _).drew))).trans (TkStp.of_stp hSt6)
          have hBx6 := E1.out.2.1.stp E1.out.1 hw0 hBl6
          have hb6h : w6.heap[b]? = some (.cells #[ptrC (cb n)] 60 (0, 0)) := (hBl6.block b (Array.getElem?_eq_some_iff.1 E1.out.2.2.1).1 HN.out.2.2.2.2.2.1 HN.out.2.2.2.2.2.2.1 (int_row_ne E1.out.1.own E1.out.2.2.1 (by decide))).trans E1.out.2.2.1
          have hb6 : w6.cell? ⟨b, 0, none⟩ = some (.pointer (some ⟨cb n, 0, none⟩)) := by simp [World.cell?, hb6h, ptrC]
          have hx6 : w6.cell? ⟨xb, 0, none⟩ = some (.pointer (some ⟨tb, 0, none⟩)) := by simp [World.cell?, hBx6.x]
          obtain ⟨q60, q61, q62, _⟩ := (hT6.tb.cmd n _ E1.out.2.2.2.2).cells
          simp only at q61 q62
          obtain ⟨_, _, t62, _⟩ := hT6.tb.cells
          have hT7 := hT6.low ((Below.refl _ _).drew)
          obtain ⟨w7, hdel7, hTb7, hSt7, hK7⟩ := hT7.tb.delNum (ty := 0) (n := n) (nat_wf (by have := HN.out.1; have := (HT.out.2.2.pos n c HN.out.2.2.1).2; omega))
          have hBl7 : TkStp who ob row1 row1 w6 w7 := (TkStp.of_stp (Stp.of_below ((Below.refl _ _).drew))).trans (TkStp.of_stp hSt7)
          have hBx7 := hBx6.stp hT6 hw0 hBl7
          have hb7h := (hBl7.block b (Array.getElem?_eq_some_iff.1 hb6h).1 HN.out.2.2.2.2.2.1 HN.out.2.2.2.2.2.2.1 (int_row_ne hT6.own hb6h (by decide))).trans hb6h
          have hb7 : w7.cell? ⟨b, 0, none⟩ = some (.pointer (some ⟨cb n, 0, none⟩)) := by simp [World.cell?, hb7h, ptrC]
          have hx7 : w7.cell? ⟨xb, 0, none⟩ = some (.pointer (some ⟨tb, 0, none⟩)) := by simp [World.cell?, hBx7.x]
          have q70 : w7.cell? ⟨cb n, 0, none⟩ = some (.int .i64 (n : Int)) := by
            have hC7 := hT7.tb.cmd n _ E1.out.2.2.2.2
            have h1 := hC7.cells.1
            rw [← World.cell?_of_block (a := ⟨cb n, 0, none⟩) (hK7 (cb n) _ hC7.1 (by simp))] at h1
            exact h1
          have t72 : w7.cell? ⟨tb, 2, none⟩ = some (.map (some mk)) := hTb7.cells.2.2.1
          have KD : Hid (∀ W', Below W5.heap.size W5 W' → Calls Tryz.prog 55 #[.pointer (some ⟨tb, 0, none⟩), .bool c.hid] W' fun e w' => e = .returned (.map (some (kindB mn mh c.hid))) ∧ W' = w') := fun W' hb => kind_any (E1.out.1.low hb).tb c.hid
          have HE : Hid (Tk w7 B tb mn mh mk who cb { S5 with nm := fun h' k' => if h' = c.hid ∧ k' = c.name then none else S5.nm h' k', cm := fun k => if k = n then none else S5.cm k } ob row1 (zs ++ (n :: L1).map (fun k : Nat => (k : Int))) ∧ TkStp who ob row1 row1 W5 w7) :=
            ⟨hT7.turn hSt7 hTb7, hBl6.trans ((TkStp.of_stp (Stp.of_below ((Below.refl _ _).drew))).trans (TkStp.of_stp hSt7))⟩
          generalize kindB mn mh c.hid = kb at *
          clear hT5 hTb6 hSt6 hT6 hBl6 hBx6 hb6h hT7 hTb7 hSt7 hnl hBl7 hBx7 hb7h hK7
          go_region_held3 (fun w' => w'.cell? ⟨b, 0, none⟩ = some (.pointer (some ⟨cb n, 0, none⟩)) ∧ w'.cell? ⟨xb, 0, none⟩ = some (.pointer (some ⟨tb, 0, none⟩)) ∧ w'.cell? ⟨cb n, 1, none⟩ = some (.string ⟨c.name.toArray⟩) ∧ w'.cell? ⟨cb n, 2, none⟩ = some (.bool c.hid)) (first | go_keep | exact ⟨hb6, hx6, q61, q62⟩) (first | (go_at_call 55; refine (KD.out _ (by first | exact (Below.refl _ _).drew | exact below_drewN (Below.refl _ _) _)).mono ?_; rintro e w2 ⟨rfl, rfl⟩))
          go_wp2_with fail
          go_region_held3 (fun w' => w'.cell? ⟨b, 0, none⟩ = some (.pointer (some ⟨cb n, 0, none⟩)) ∧ w'.cell? ⟨xb, 0, none⟩ = some (.pointer (some ⟨tb, 0, none⟩)) ∧ w'.cell? ⟨cb n, 0, none⟩ = some (.int .i64 (n : Int)) ∧ w'.cell? ⟨tb, 2, none⟩ = some (.map (some mk))) (first | go_keep | exact ⟨hb7, hx7, q70, t72⟩) (fail)
          go_wp2_with fail
          go_end0
          refine ⟨rfl, _, n :: L1, row1, E6.out, HE.out.1, ?_⟩
          have h1 := E1.out.2.2.2.1.trans HE.out.2
          have h0 : TkStp who ob (.slice ro zn rc) (.slice ro zn rc) w W := by
            have := TkStp.of_stp (who := who) (ob := ob) (row := .slice ro zn rc) (Stp.of_below HB0.out)
            rw [HW.out.1] at this
            exact this
          have h2 := h0.trans h1
          rw [← HW.out.2.1] at h2
          exact h2
        · obtain ⟨p1, hp1, hnm, hol⟩ := hP.wf.org n _ hP.at_ hoz
          simp only at hp1 hol
          obtain ⟨_, _, _, _, ⟨io2, ic2, r4, hrow2, hid2⟩, rf⟩ := (hTk.tb.cmd _ _ hp1).cells
          have hC := hTk.tb.cmd n _ hP.at_
          have hCo := hTk.tb.cmd _ _ hp1
          have hne : ∀ i, cb i = cb n → i ∈ p1.imp → i = n := fun i he hm => by
            obtain ⟨d, hd, _⟩ := hP.wf.imp _ _ hp1 i hm
            have h1 := (hTk.tb.cmd i d hd).1
            rw [he, hC.1] at h1
            simpa using h1.symm
          have hfl : (p1.imp.map cb).filter (fun x => !(x == cb n)) = (dropI n p1).imp.map cb := by
            rw [List.filter_map]
            unfold dropI
            congr 1
            refine List.filter_congr fun i hi => ?_
            simp only [Function.comp_apply]
            by_cases e : i = n
            · subst e; simp
            · have : cb i ≠ cb n := fun h => e (hne i h hi)
              rw [beq_eq_false_iff_ne.2 this, beq_eq_false_iff_ne.2 e]
          have hil := hP.wf.imp_len hp1
          have hcl := hP.wf
          have hcn := hP.cnt HT.out.2.2 HN.out.2.2.1
          have hcl2 := S.cnt_le
          rw [ptrO_some hoz] at q3
          have hb0' : b < wr.heap.size := (Array.getElem?_eq_some_iff.1 hbb).1
          have hrb : (Value.slice io2 p1.imp.length ic2).ownBlock ≠ some b := fun e => by have := hid2 b e; rw [HN.out.2.2.2.2.2.1] at this; cases this
          have DF : Hid (∀ W', Below wr.heap.size wr W' → Calls Tryz.prog 58 #[.slice io2 p1.imp.length ic2, .func (.func 59) #[] #[.pointer (some ⟨b, 0, none⟩)]] W' fun e w' => ∃ vo vc, e = .returned (.slice vo (dropI n p1).imp.length vc) ∧
              w'.ownsRow B 60 1 (.slice vo (dropI n p1).imp.length vc) (dropI n p1).imp.length ((dropI n p1).imp.map fun i => ptrC (cb i)) ∧ (Value.slice vo (dropI n p1).imp.length vc).ownBlock = (Value.slice io2 p1.imp.length ic2).ownBlock ∧ Kp (Value.slice io2 p1.imp.length ic2).ownBlock.toList W' w') := fun W' hb => by
            have hT' := hTk.low hb
            have h1 := del_t (B := B) (xb := b) (b := cb n) (bs := p1.imp.map cb) (v := .slice io2 p1.imp.length ic2) W' ((hb.cell (p := ⟨b, 0, none⟩) hb0').trans x0) (Nat.lt_of_lt_of_le hb0' hb.size) hrb (Nat.le_trans hTk.tb.base hb.size) (fun a ha => by
              have hI : ∀ k d, S1.cm k = some d → IsC W' (cb k) := fun k d hk => by
                obtain ⟨_, v, h2, _⟩ := hT'.tb.cmd k d hk
                exact ⟨_, h2⟩
              rcases ha with rfl | ha
              · exact hI n _ hP.at_
              · obtain ⟨i, hi, rfl⟩ := List.mem_map.1 ha
                obtain ⟨d, hd, _⟩ := hP.wf.imp _ _ hp1 i hi
                exact hI i d hd) (by have := HN.out.1; simp; omega) (by
              rw [List.length_map, List.map_map]
              exact row_keep hrow2 (fun g hg => hb.block g (hTk.tb.lo g (by rw [hid2 g hg]; simp)).2))
            rw [hfl, List.length_map, List.map_map] at h1
            refine h1.mono ?_
            rintro e w6 ⟨v', he, hr, hv⟩
            obtain ⟨vo, vc, rfl⟩ := row_slice2 hr
            exact ⟨vo, vc, he, hr, hv⟩
          have DFK : Hid (∀ W', Below wr.heap.size wr W' → ∀ w6, Kp (Value.slice io2 p1.imp.length ic2).ownBlock.toList W' w6 → w6.cell? ⟨b, 0, none⟩ = some (.pointer (some ⟨cb n, 0, none⟩)) ∧ w6.cell? ⟨cb n, 3, none⟩ = some (.pointer (some ⟨cb c.org, 0, none⟩)) ∧ w6.cell? ⟨cb c.org, 4, none⟩ = some (.slice io2 p1.imp.length ic2) ∧ w6.frozen? ⟨cb c.org, 4, none⟩ = false ∧ (∀ u, (w6.setCell ⟨cb c.org, 4, none⟩ u).cell? ⟨b, 0, none⟩ = some (.pointer (some ⟨cb n, 0, none⟩))) ∧ (∀ u, (w6.setCell ⟨cb c.org, 4, none⟩ u).cell? ⟨cb n, 3, none⟩ = some (.pointer (some ⟨cb c.org, 0, none⟩)))) := fun W' hb w6 hk => by
            have hT' := hTk.low hb
            have hn1 : cb n ∉ (Value.slice io2 p1.imp.length ic2).ownBlock.toList := fun hm => by
              have := hid2 (cb n) (by simpa using hm)
              rw [hC.1] at this
              simp at this
            have hn2 : cb c.org ∉ (Value.slice io2 p1.imp.length ic2).ownBlock.toList := fun hm => by
              have := hid2 (cb c.org) (by simpa using hm)
              rw [hCo.1] at this
              simp at this
            have hcn' : ∀ i v, W'.cell? ⟨cb n, i, none⟩ = some v → w6.cell? ⟨cb n, i, none⟩ = some v := fun i v h => by
              rw [World.cell?_of_block (a := ⟨cb n, i, none⟩) (hk.block (cb n) (World.block_lt_of_cell? _ _ h) hn1)]; exact h
            have hbb' := (hb.block b hb0').trans hbb
            have hb6 := (hk.block b (Nat.lt_of_lt_of_le hb0' hb.size) (fun hm => hrb (by simpa using hm))).trans hbb'
            have hob := (hT'.tb.cmd _ _ hp1)
            obtain ⟨_, _, _, u3, _⟩ := (hT'.tb.cmd n _ hP.at_).cells
            simp only [ptrO_some hoz] at u3
            obtain ⟨_, v2, g2, _⟩ := hob
            have g4 : W'.cell? ⟨cb c.org, 4, none⟩ = some (.slice io2 p1.imp.length ic2) := (hb.cell (p := ⟨cb c.org, 4, none⟩) (World.block_lt_of_cell? _ _ r4)).trans r4
            have g6 := (hk.block (cb c.org) (Array.getElem?_eq_some_iff.1 g2).1 hn2).trans g2
            have hco1 : b ≠ cb c.org := fun e => by
              have := hCo.1
              rw [← e, HN.out.2.2.2.2.2.1] at this
              cases this
            have hco2 : cb n ≠ cb c.org := fun e => by
              have h1 := hC.1
              rw [e, hCo.1] at h1
              simp at h1
              omega
            have c1 : w6.cell? ⟨b, 0, none⟩ = some (.pointer (some ⟨cb n, 0, none⟩)) := by simp [World.cell?, hb6, ptrC]
            have c2 := hcn' 3 _ u3
            refine ⟨c1, c2, ?_, by simp [World.frozen?, g6], fun u => ?_, fun u => ?_⟩
            · rw [World.cell?_of_block (a := ⟨cb c.org, 4, none⟩) (hk.block (cb c.org) (Array.getElem?_eq_some_iff.1 g2).1 hn2)]; exact g4
            · rw [World.cell?_of_block (a := ⟨b, 0, none⟩) (set_other w6 u hco1)]; exact c1
            · rw [World.cell?_of_block (a := ⟨cb n, 3, none⟩) (set_other w6 u hco2)]; exact c2
          obtain ⟨S5, hS5⟩ : ∃ S5 : TS, S5 = { S1 with cm := fun k => if k = c.org then some (dropI n p1) else S1.cm k } := ⟨_, rfl⟩
          have hno : n ≠ c.org := by omega
          have HS5 : Hid (S5.cm n = some { c with imp := [] }) := by
            show _ = _
            rw [hS5]
            simp only [if_neg hno]
            exact hP.at_
          have E6 : Hid (Gone S n (n :: L1) { S5 with nm := fun h' k' => if h' = c.hid ∧ k' = c.name then none else S5.nm h' k', cm := fun k => if k = n then none else S5.cm k }) := by
            have e : ({ S5 with nm := fun h' k' => if h' = c.hid ∧ k' = c.name then none else S5.nm h' k', cm := fun k => if k = n then none else S5.cm k } : TS) = delT S1 n { c with imp := [] } := by
              rw [hS5]
              unfold delT
              simp only [TS.mk.injEq, true_and, and_true]
              funext k
              by_cases e : k = n
              · rw [if_pos e, if_pos e]
              · rw [if_neg e, if_neg e]
                by_cases e2 : k = c.org
                · rw [if_pos e2, e2, hp1]; rfl
                · rw [if_neg e2]
                  cases hk : S1.cm k with
                  | none => rfl
                  | some d =>
                    rw [Option.map_some, dropI_self (fun hm => by
                      obtain ⟨d', hd', ho'⟩ := hP.wf.imp k d hk n hm
                      rw [hP.at_] at hd'
                      cases hd'
                      exact e2 ho'.symm)]
            show Gone _ _ _ _
            rw [e]; exact hP.done HT.out.2.2 HN.out.2.2.1
          have FIN : Hid (∀ w6 vo vc, w6.ownsRow B 60 1 (.slice vo (dropI n p1).imp.length vc) (dropI n p1).imp.length ((dropI n p1).imp.map fun i => ptrC (cb i)) → (Value.slice vo (dropI n p1).imp.length vc).ownBlock = (Value.slice io2 p1.imp.length ic2).ownBlock → Kp (Value.slice io2 p1.imp.length ic2).ownBlock.toList wr.drew w6 →
              Tk (w6.setCell ⟨cb c.org, 4, none⟩ (.slice vo (dropI n p1).imp.length vc)) B tb mn mh mk who cb S5 ob row1 (zs ++ (n :: L1).map (fun k : Nat => (k : Int))) ∧ TkStp who ob row1 row1 wr (w6.setCell ⟨cb c.org, 4, none⟩ (.slice vo (dropI n p1).imp.length vc))) := fun w6 vo vc hv1 hv2 hv3 => by
            have hT' := hTk.low ((Below.refl _ wr).drew)
            obtain ⟨g1, g2⟩ := hT'.tb.setImp (who' := who) hp1 (v := .slice io2 p1.imp.length ic2) (show wr.drew.cell? ⟨cb c.org, 4, none⟩ = _ from r4) hv3 hv1 (.inl ⟨hv2, rfl⟩)
            rw [hS5]
            exact ⟨hT'.turn g2 g1, (TkStp.of_stp (Stp.of_below ((Below.refl _ _).drew))).trans (TkStp.of_stp g2)⟩
          obtain ⟨pn, hpn⟩ : ∃ pn, p1.imp.length = pn := ⟨_, rfl⟩
          rw [hpn] at DF DFK r4 FIN
          obtain ⟨dn, hdn⟩ : ∃ dn, (dropI n p1).imp.length = dn := ⟨_, rfl⟩
          rw [hdn] at DF FIN
          have HDN := Lib.hid hdn
          have HR2 := Lib.hid (And.intro hp1 (And.intro hpn hoz))
          obtain ⟨co, hco⟩ : ∃ co, cb c.org = co := ⟨_, rfl⟩
          rw [hco] at q3 r4 DFK FIN
          have HCO := Lib.hid hco
          clear hP hTk hSt hBx hbb hrow hid hg hrow2 hid2 hC hCo hne hfl hil hcl hcn hcl2 hrb hp1 hnm hol rf hpn hoz hco hb0' hdn hS5 hno
          go_wp2_with fail
          refine wp_mono (Q := Exit.then (Mid (fun x : Option Addr × Nat => ⟨#[.pointer (some ⟨cb n, 0, none⟩), .pointer (some ⟨ob, 0, none⟩), .pointer (some ⟨fb, 0, none⟩), .pointer (some ⟨xb, 0, none⟩), .pointer (some ⟨b, 0, none⟩), .slice ro zn rc, .pointer (some ⟨cb n, 0, none⟩), .pointer (some ⟨cb n, 0, none⟩), .pointer (some ⟨cb n, 0, none⟩), .int .i64 (n : Int), .slice (some ⟨W.heap.size, 0, none⟩) 1 1, .slice (some ⟨g, 0, none⟩) (zn + 1) c6, .pointer (some ⟨cb n, 0, none⟩), .pointer (some ⟨cb n, 0, none⟩), .pointer (some ⟨cb n, 4, none⟩), .slice io 0 ic, .int .i64 0, .bool false, u18, u19, u20, u21, u22, u23, u24, u25, .pointer (some ⟨cb n, 0, none⟩), .pointer (some ⟨cb n, 0, none⟩), .pointer (some ⟨cb n, 3, none⟩), .pointer (some ⟨co, 0, none⟩), .bool true, .pointer (some ⟨cb n, 0, none⟩), .pointer (some ⟨cb n, 0, none⟩), .pointer (some ⟨cb n, 3, none⟩), .pointer (some ⟨co, 0, none⟩), .pointer (some ⟨cb n, 0, none⟩), .pointer (some ⟨cb n, 0, none⟩), .pointer (some ⟨cb n, 3, none⟩), .pointer (some ⟨co, 0, none⟩), .pointer (some ⟨co, 0, none⟩), .pointer (some ⟨co, 4, none⟩), .slice io2 pn ic2, .func (.func 59) #[] #[.pointer (some ⟨b, 0, none⟩)], .slice x.1 dn x.2, .pointer (some ⟨co, 0, none⟩), .pointer (some ⟨co, 4, none⟩), undef, undef, undef, undef, undef, undef, undef, undef, undef, undef, undef, undef, undef, undef, undef, undef, undef, undef], []⟩) (fun x W5 => Hid (Tk W5 B tb mn mh mk who cb S5 ob row1 (zs ++ (n :: L1).map (fun k : Nat => (k : Int))) ∧ TkStp who ob row1 row1 wr W5))) (fun _ _ _ => False)) ?_ (fun e a' W5 h => ?_)
          · clear IH HT HW HN HX HP HBX HR HR2 HCO HDN HS5 E6 hw0 hzb
            have hS0 : wr.drew.cell? ⟨b, 0, none⟩ = some (.pointer (some ⟨cb n, 0, none⟩)) ∧ wr.drew.cell? ⟨cb n, 3, none⟩ = some (.pointer (some ⟨co, 0, none⟩)) := ⟨x0, q3⟩
            refine wp_region_held_drew (S := fun w' => w'.cell? ⟨b, 0, none⟩ = some (.pointer (some ⟨cb n, 0, none⟩)) ∧ w'.cell? ⟨cb n, 3, none⟩ = some (.pointer (some ⟨co, 0, none⟩))) (by kernel_rfl) hS0 (fun hHeld => ?_)
            refine wpAnyH_take (i := 0) (v := .pointer (some ⟨cb n, 0, none⟩)) rfl (by kernel_rfl) (by kernel_rfl) (by kernel_rfl) (fun _ _ _ h => h) (Or.inl ⟨by rfl, ?_⟩) (by assumption) ?_
            · intro w hSw; (try dsimp only at hSw); go_simp
            try simp only [Act.put, List.setIfInBounds_toArray, List.set_cons_zero, List.set_cons_succ]
            refine wpAnyH_take (i := 1) (v := .pointer (some ⟨cb n, 0, none⟩)) rfl (by kernel_rfl) (by kernel_rfl) (by kernel_rfl) (fun _ _ _ h => h) (Or.inl ⟨by rfl, ?_⟩) (by assumption) ?_
            · intro w hSw; (try dsimp only at hSw); go_simp
            try simp only [Act.put, List.setIfInBounds_toArray, List.set_cons_zero, List.set_cons_succ]
            refine wpAnyH_take (i := 2) (v := .pointer (some ⟨cb n, 3, none⟩)) rfl (by kernel_rfl) (by kernel_rfl) (by kernel_rfl) (fun _ _ _ h => h) (Or.inl ⟨by rfl, ?_⟩) (by assumption) ?_
            · intro w hSw; (try dsimp only at hSw); go_simp
            try simp only [Act.put, List.setIfInBounds_toArray, List.set_cons_zero, List.set_cons_succ]
            refine wpAnyH_take (i := 3) (v := .pointer (some ⟨co, 0, none⟩)) rfl (by kernel_rfl) (by kernel_rfl) (by kernel_rfl) (fun _ _ _ h => h) (Or.inl ⟨by rfl, ?_⟩) (by assumption) ?_
            · intro w hSw; (try dsimp only at hSw); go_simp
            try simp only [Act.put, List.setIfInBounds_toArray, List.set_cons_zero, List.set_cons_succ]
            refine wpAnyH_take (i := 4) (v := .pointer (some ⟨cb n, 0, none⟩)) rfl (by kernel_rfl) (by kernel_rfl) (by kernel_rfl) (fun _ _ _ h => h) (Or.inl ⟨by rfl, ?_⟩) (by assumption) ?_
            · intro w hSw; (try dsimp only at hSw); go_simp
            try simp only [Act.put, List.setIfInBounds_toArray, List.set_cons_zero, List.set_cons_succ]
            refine wpAnyH_take (i := 5) (v := .pointer (some ⟨cb n, 0, none⟩)) rfl (by kernel_rfl) (by kernel_rfl) (by kernel_rfl) (fun _ _ _ h => h) (Or.inl ⟨by rfl, ?_⟩) (by assumption) ?_
            · intro w hSw; (try dsimp only at hSw); go_simp
            try simp only [Act.put, List.setIfInBounds_toArray, List.set_cons_zero, List.set_cons_succ]
            refine wpAnyH_take (i := 6) (v := .pointer (some ⟨cb n, 3, none⟩)) rfl (by kernel_rfl) (by kernel_rfl) (by kernel_rfl) (fun _ _ _ h => h) (Or.inl ⟨by rfl, ?_⟩) (by assumption) ?_
            · intro w hSw; (try dsimp only at hSw); go_simp
            try simp only [Act.put, List.setIfInBounds_toArray, List.set_cons_zero, List.set_cons_succ]
            refine wpAnyH_take (i := 7) (v := .pointer (some ⟨co, 0, none⟩)) rfl (by kernel_rfl) (by kernel_rfl) (by kernel_rfl) (fun _ _ _ h => h) (Or.inl ⟨by rfl, ?_⟩) (by assumption) ?_
            · intro w hSw; (try dsimp only at hSw); go_simp
            try simp only [Act.put, List.setIfInBounds_toArray, List.set_cons_zero, List.set_cons_succ]
            refine wpAnyH_take (i := 8) (v := .pointer (some ⟨co, 0, none⟩)) rfl (by kernel_rfl) (by kernel_rfl) (by kernel_rfl) (fun _ _ _ h => h) (Or.inl ⟨by rfl, ?_⟩) (by assumption) ?_
            · intro w hSw; (try dsimp only at hSw); go_simp
            try simp only [Act.put, List.setIfInBounds_toArray, List.set_cons_zero, List.set_cons_succ]
            refine wpAnyH_take (i := 9) (v := .pointer (some ⟨co, 4, none⟩)) rfl (by kernel_rfl) (by kernel_rfl) (by kernel_rfl) (fun _ _ _ h => h) (Or.inl ⟨by rfl, ?_⟩) (by assumption) ?_
            · intro w hSw; (try dsimp only at hSw); go_simp
            try simp only [Act.put, List.setIfInBounds_toArray, List.set_cons_zero, List.set_cons_succ]
            refine wpAnyH_take (i := 11) (v := .func (.func 59) #[] #[.pointer (some ⟨b, 0, none⟩)]) rfl (by kernel_rfl) (by kernel_rfl) (by kernel_rfl) (fun _ _ _ h => h) (Or.inl ⟨by rfl, ?_⟩) (by assumption) ?_
            · intro w hSw; (try dsimp only at hSw); go_simp
            try simp only [Act.put, List.setIfInBounds_toArray, List.set_cons_zero, List.set_cons_succ]
            refine wpAnyH_ready (rs := [10]) (by kernel_rfl) (by simp) ?_
            refine AllReadyH.cons rfl (fun K hK => ?_) AllReadyH.nil
            go_simp
            refine hK.out _ _ hS0 (fun hHeld => ?_)
            clear hK K
            try simp only [Act.put, List.setIfInBounds_toArray, List.set_cons_zero, List.set_cons_succ]
            refine wpAnyH_ready (rs := [12]) (by kernel_rfl) (by simp) ?_
            refine AllReadyH.cons rfl (fun K hK => ?_) AllReadyH.nil
            go_simp
            (go_at_call 58; refine (DF.out _ (by exact (Below.refl _ _).drew)).mono ?_; rintro e w6 ⟨vo, vc, rfl, hv1, hv2, hv3⟩; obtain ⟨k1, k2, k3, k4, k5, k6⟩ := DFK.out _ (by exact (Below.refl _ _).drew) w6 hv3; have H6 := Lib.hid (FIN.out w6 vo vc hv1 hv2 hv3); clear hv1 hv2 hv3)
            go_wp2_with fail
            refine hK.out _ _ ⟨k1, k2⟩ (fun hHeld => ?_)
            clear hK K
            try simp only [Act.put, List.setIfInBounds_toArray, List.set_cons_zero, List.set_cons_succ]
            refine wpAnyH_take (i := 13) (v := .pointer (some ⟨co, 0, none⟩)) rfl (by kernel_rfl) (by kernel_rfl) (by kernel_rfl) (fun _ _ _ h => h) (Or.inl ⟨by rfl, ?_⟩) (by assumption) ?_
            · intro w hSw; (try dsimp only at hSw); go_simp
            try simp only [Act.put, List.setIfInBounds_toArray, List.set_cons_zero, List.set_cons_succ]
            refine wpAnyH_take (i := 14) (v := .pointer (some ⟨co, 4, none⟩)) rfl (by kernel_rfl) (by kernel_rfl) (by kernel_rfl) (fun _ _ _ h => h) (Or.inl ⟨by rfl, ?_⟩) (by assumption) ?_
            · intro w hSw; (try dsimp only at hSw); go_simp
            try simp only [Act.put, List.setIfInBounds_toArray, List.set_cons_zero, List.set_cons_succ]
            refine wpAnyH_ready (rs := [15]) (by kernel_rfl) (by simp) ?_
            refine AllReadyH.cons rfl (fun K hK => ?_) AllReadyH.nil
            go_simp
            refine hK.out _ _ ⟨k5 _, k6 _⟩ (fun hHeld => ?_)
            clear hK K
            try simp only [Act.put, List.setIfInBounds_toArray, List.set_cons_zero, List.set_cons_succ]
            refine wpAnyH_done (by kernel_rfl) ?_ _
            exact ⟨(vo, vc), rfl, H6⟩
          obtain rfl : e = .normal := by cases e <;> first | rfl | exact h.elim
          obtain ⟨⟨vo, vc⟩, rfl, HP5⟩ := h
          dsimp only
          have E1 : Hid (Tk W5 B tb mn mh mk who cb S5 ob row1 (zs ++ (n :: L1).map (fun k : Nat => (k : Int))) ∧ Bx W5 ob fb xb tb ∧ W5.heap[b]? = some (.cells #[ptrC (cb n)] 60 (0, 0)) ∧ TkStp who ob (.slice ro zn rc) row1 W W5 ∧ S5.cm n = some { c with imp := [] }) := by
            obtain ⟨hP, hTk, hSt, hBx, hbb⟩ := HR.out
            refine ⟨HP5.out.1, hBx.stp hTk hw0 HP5.out.2, ?_, hSt.trans HP5.out.2, HS5.out⟩
            exact (HP5.out.2.block b (Array.getElem?_eq_some_iff.1 hbb).1 HN.out.2.2.2.2.2.1 HN.out.2.2.2.2.2.2.1 (int_row_ne hTk.own hbb (by decide))).trans hbb
          clear q3 r4 x0 DF DFK FIN HR HR2 HP5 q0 q1 q2 q4 qf HCO HDN HS5
          go_wp2_with fail
          obtain ⟨p0, p1, p2, _⟩ := (E1.out.1.tb.cmd n _ E1.out.2.2.2.2).cells
          simp only at p1 p2
          have hb1 : W5.cell? ⟨b, 0, none⟩ = some (.pointer (some ⟨cb n, 0, none⟩)) := by simp [World.cell?, E1.out.2.2.1, ptrC]
          have hx1 : W5.cell? ⟨xb, 0, none⟩ = some (.pointer (some ⟨tb, 0, none⟩)) := by simp [World.cell?, E1.out.2.1.x]
          have hT5 := E1.out.1.low ((Below.refl _ _).drew)
          obtain ⟨w6, hdel, hTb6, hSt6⟩ := hT5.tb.delName (ty := 0) c.hid (k := c.name) (by unfold maxLen; omega)
          have hT6 := hT5.turn hSt6 hTb6
          have hBl6 : TkStp who ob row1 row1 W5 w6 := (TkStp.of_stp (Stp.of_below ((Below.refl _ _).drew))).trans (TkStp.of_stp hSt6)
          have hBx6 := E1.out.2.1.stp E1.out.1 hw0 hBl6
          have hb6h : w6.heap[b]? = some (.cells #[ptrC (cb n)] 60 (0, 0)) := (hBl6.block b (Array.getElem?_eq_some_iff.1 E1.out.2.2.1).1 HN.out.2.2.2.2.2.1 HN.out.2.2.2.2.2.2.1 (int_row_ne E1.out.1.own E1.out.2.2.1 (by decide))).trans E1.out.2.2.1
          have hb6 : w6.cell? ⟨b, 0, none⟩ = some (.pointer (some ⟨cb n, 0, none⟩)) := by simp [World.cell?, hb6h, ptrC]
          have hx6 : w6.cell? ⟨xb, 0, none⟩ = some (.pointer (some ⟨tb, 0, none⟩)) := by simp [World.cell?, hBx6.x]
          obtain ⟨q60, q61, q62, _⟩ := (hT6.tb.cmd n _ E1.out.2.2.2.2).cells
          simp only at q61 q62
          obtain ⟨_, _, t62, _⟩ := hT6.tb.cells
          have hT7 := hT6.low ((Below.refl _ _).drew)
          obtain ⟨w7, hdel7, hTb7, hSt7, hK7⟩ := hT7.tb.delNum (ty := 0) (n := n) (nat_wf (by have := HN.out.1; have := (HT.out.2.2.pos n c HN.out.2.2.1).2; omega))
          have hBl7 : TkStp who ob row1 row1 w6 w7 := (TkStp.of_stp (Stp.of_below ((Below.refl _ _).drew))).trans (TkStp.of_stp hSt7)
          have hBx7 := hBx6.stp hT6 hw0 hBl7
          have hb7h := (hBl7.block b (Array.getElem?_eq_some_iff.1 hb6h).1 HN.out.2.2.2.2.2.1 HN.out.2.2.2.2.2.2.1 (int_row_ne hT6.own hb6h (by decide))).trans hb6h
          have hb7 : w7.cell? ⟨b, 0, none⟩ = some (.pointer (some ⟨cb n, 0, none⟩)) := by simp [World.cell?, hb7h, ptrC]
          have hx7 : w7.cell? ⟨xb, 0, none⟩ = some (.pointer (some ⟨tb, 0, none⟩)) := by simp [World.cell?, hBx7.x]
          have q70 : w7.cell? ⟨cb n, 0, none⟩ = some (.int .i64 (n : Int)) := by
            have hC7 := hT7.tb.cmd n _ E1.out.2.2.2.2
            have h1 := hC7.cells.1
            rw [← World.cell?_of_block (a := ⟨cb n, 0, none⟩) (hK7 (cb n) _ hC7.1 (by simp))] at h1
            exact h1
          have t72 : w7.cell? ⟨tb, 2, none⟩ = some (.map (some mk)) := hTb7.cells.2.2.1
          have KD : Hid (∀ W', Below W5.heap.size W5 W' → Calls Tryz.prog 55 #[.pointer (some ⟨tb, 0, none⟩), .bool c.hid] W' fun e w' => e = .returned (.map (some (kindB mn mh c.hid))) ∧ W' = w') := fun W' hb => kind_any (E1.out.1.low hb).tb c.hid
          have HE : Hid (Tk w7 B tb mn mh mk who cb { S5 with nm := fun h' k' => if h' = c.hid ∧ k' = c.name then none else S5.nm h' k', cm := fun k => if k = n then none else S5.cm k } ob row1 (zs ++ (n :: L1).map (fun k : Nat => (k : Int))) ∧ TkStp who ob row1 row1 W5 w7) :=
            ⟨hT7.turn hSt7 hTb7, hBl6.trans ((TkStp.of_stp (Stp.of_below ((Below.refl _ _).drew))).trans (TkStp.of_stp hSt7))⟩
          generalize kindB mn mh c.hid = kb at *
          clear hT5 hTb6 hSt6 hT6 hBl6 hBx6 hb6h hT7 hTb7 hSt7 hnl hBl7 hBx7 hb7h hK7
          go_region_held3 (fun w' => w'.cell? ⟨b, 0, none⟩ = some (.pointer (some ⟨cb n, 0, none⟩)) ∧ w'.cell? ⟨xb, 0, none⟩ = some (.pointer (some ⟨tb, 0, none⟩)) ∧ w'.cell? ⟨cb n, 1, none⟩ = some (.string ⟨c.name.toArray⟩) ∧ w'.cell? ⟨cb n, 2, none⟩ = some (.bool c.hid)) (first | go_keep | exact ⟨hb6, hx6, q61, q62⟩) (first | (go_at_call 55; refine (KD.out _ (by first | exact (Below.refl _ _).drew | exact below_drewN (Below.refl _ _) _)).mono ?_; rintro e w2 ⟨rfl, rfl⟩))
          go_wp2_with fail
          go_region_held3 (fun w' => w'.cell? ⟨b, 0, none⟩ = some (.pointer (some ⟨cb n, 0, none⟩)) ∧ w'.cell? ⟨xb, 0, none⟩ = some (.pointer (some ⟨tb, 0, none⟩)) ∧ w'.cell? ⟨cb n, 0, none⟩ = some (.int .i64 (n : Int)) ∧ w'.cell? ⟨tb, 2, none⟩ = some (.map (some mk))) (first | go_keep | exact ⟨hb7, hx7, q70, t72⟩) (fail)
          go_wp2_with fail
          go_end0
          refine ⟨rfl, _, n :: L1, row1, E6.out, HE.out.1, ?_⟩
          have h1 := E1.out.2.2.2.1.trans HE.out.2
          have h0 : TkStp who ob (.slice ro zn rc) (.slice ro zn rc) w W := by
            have := TkStp.of_stp (who := who) (ob := ob) (row := .slice ro zn rc) (Stp.of_below HB0.out)
            rw [HW.out.1] at this
            exact this
          have h2 := h0.trans h1
          rw [← HW.out.2.1] at h2
          exact h2
end
end Go.Proofs.YtbbbenjakjejmaaGreat

/- The walk of the reference's 'Make'. -/
import Derived.Test.YtjgdfgpnmmkjfaaGreatDoorNRMk
namespace Go.Proofs.YtjgdfgpnmmkjfaaGreatDoor
set_option linter.unusedVariables false
set_option linter.unusedSimpArgs false
open Go.RowKit Go.MapKept

/-- A call of a Go function as one step of a region that draws. -/
theorem step_callF {P : Program} {ops : Array Oper} {o : Oper} {a : Act} {w : World} {K : Act → World → Prop} {Q : Exit → Act → World → Prop} {E : Prop}
    (hg : o.guard = none) (f : FuncId) (xs : Array Operand) (ts : Array TypeId) (hop : o.op = Op.call { callee := Callee.value (.func f), args := xs, argTypes := ts }) (vs : Array Value) (hx : xs.map a.eval = vs) (hf : ∀ w, (callFunc f vs).run P w = .ok (.enter f vs) w)
    (hc : Calls P f vs w fun e w' => ∃ v, e = .returned v ∧ K (a.put o.dst v) w') :
    if Region.wanted o (yielded ops a.tmps) = true then Oper.wp P o a w K Q else E := by
  have hwn : Region.wanted o (yielded ops a.tmps) = true := by simp [Region.wanted, hg]
  rw [if_pos hwn]
  unfold Oper.wp
  simp [execOp, hop, resolve, invoke, hx, Result.andThen, go_sem, hf]
  refine hc.mono ?_
  rintro _ w' ⟨v, rfl, hk⟩
  exact hk
theorem can_id (l : List Bs) (h : ∀ q ∈ l, Gp q) : canonN rootN (canN l) = canN l := by rw [canon_root, parts_can l h]
theorem RTr.lvOf {w : World} {B yb : Nat} {who : Own} {nd : Bs → Option Nat} {S : Bs → Option ND} {l : List Bs} (h : RTr w B yb who nd S l) : ∃ lo lc, w.heap[yb]? = some (.cells #[.slice lo l.length lc] 60 (0, 0)) ∧ w.ownsRow B 55 1 (.slice lo l.length lc) l.length (l.map fun p => ptrN (nd p)) ∧ ∀ g, (Value.slice lo l.length lc).ownBlock = some g → who g = some (1, []) := by
  obtain ⟨lv, h1, h2, h3⟩ := h.cel
  obtain ⟨lo, lc, rfl⟩ := owns_slice h2
  exact ⟨lo, lc, h1, h2, h3⟩
set_option maxRecDepth 100000 in
set_option maxHeartbeats 3200000 in
theorem rMake_any {w : World} {B yb : Nat} {who : Own} {nd : Bs → Option Nat} {S : Bs → Option ND} {l : List Bs} (h : RTr w B yb who nd S l) (hl : l.length ≤ 100000) (path : Bs) (hp : path.length ≤ 20000) :
    Calls Tryz.prog 24 #[.pointer (some ⟨yb, 0, none⟩), .string ⟨path.toArray⟩] w fun e w' => e = .returned (.int .i64 0) ∧ ∃ who' nd' l', RTr w' B yb who' nd' (makeS S path) l' ∧ Stp who who' w w' := by
  have hw := parts_w path
  have hl0 := len_w (partsN path)
  have PA : Hid (Calls Tryz.prog 55 #[.string ⟨path.toArray⟩] w fun e w' => ∃ o c, e = .returned (.slice o (partsN path).length c) ∧ w'.ownsRow w.heap.size 9 1 (.slice o (partsN path).length c) (partsN path).length ((partsN path).map sv) ∧ Below w.heap.size w w') := (rParts_any path (by omega) w).mono fun e w' ⟨r, he, ho, hB⟩ => by
    obtain ⟨o, c, rfl⟩ := owns_slice ho
    exact ⟨o, c, he, ho, hB⟩
  have JO : Hid (∀ W v l, wN l ≤ 1000000000 → TxtRow W v l → Calls Tryz.prog 57 #[v] W fun e w' => e = .returned (.string ⟨(canN l).toArray⟩) ∧ Below W.heap.size W w') := fun W v l q ht => of_any l v W ht q
  have hgood := parts_good path
  unfold makeS
  generalize partsN path = ps at *
  obtain ⟨n, hn⟩ : ∃ n, ps.length = n := ⟨_, rfl⟩
  have HN := Lib.hid (And.intro hn (And.intro (show wN ps ≤ 70000 by omega) (And.intro hl0 (And.intro hgood hl))))
  rw [hn] at hl0 PA ⊢
  have hnb : n ≤ 100000 := by omega
  have H := Lib.hid h
  have hp1 : IntKind.i64.wrap ((n : Int) + 1) = (n : Int) + 1 := IntWalk.i64_in _ (by omega)
  clear h hw hl0 hn hp hgood hl
  go_enter Tryz.func24, Tryz.ntmps24
  go_wp2_with (go_at_call 55; refine PA.out.mono ?_; rintro e w1 ⟨ao, ac, rfl, ho, hB⟩; have HP := Lib.hid (And.intro ho hB); clear ho hB)
  go_loopw [14] (fun q wr => ∃ k : Nat, k ≤ n + 1 ∧ q = .int .i64 (k : Int) ∧ ∃ who' nd' l', RTr wr B yb who' nd' (mkS S ps k) l' ∧ Stp who who' w1 wr ∧ l'.length ≤ 100000 + k) (fun q _ => n + 1 - (intOf q).toNat)
  case atStart => exact ⟨0, Nat.zero_le _, rfl, who, nd, l, H.out.low HP.out.2, Stp.refl _ _, HN.out.2.2.2.2⟩
  case round =>
    obtain ⟨k, hk, rfl, who1, nd1, l1, hT, hS, hl1⟩ := hrel
    have HR := Lib.hid (And.intro hT (And.intro hS hl1))
    by_cases hlt : k < n + 1
    · have htx : TxtRow w1 (.slice ao n ac) ps := by
        have := HP.out.1
        have e := HN.out.1
        rw [← e] at this ⊢
        exact TxtRow.of_owns this
      have hun : ∀ a, ao = some a → who a.block = none := fun a ha => H.out.none_at (TxtRow.nilOr HP.out.1 a ha)
      have hrow : TxtRow wr (.slice ao k ac) (ps.take k) := (htx.fr hun hS.fr).take (by omega)
      have hcap : n ≤ ac := by obtain ⟨_, h2, _⟩ := htx.at_; rw [HN.out.1] at h2; exact h2
      have hcm : ac ≤ maxLen := by obtain ⟨_, _, h2, _⟩ := htx.at_; exact h2
      have hwt := wN_take_le ps k
      have hw3 := HN.out.2.1
      have hql : (canN (ps.take k)).length ≤ 80000 := by
        have h1 := can_len (ps.take k)
        omega
      have hcid := can_id (ps.take k) (fun q hq => HN.out.2.2.2.1 q (List.mem_of_mem_take hq))
      have hJ := fun W hb => JO.out W _ _ (by omega) (hrow.below (w' := W) hb)
      have hs := mkS_succ S ps k
      have hAT := fun W (hb : Below wr.heap.size wr W) => rat_any (hT.low hb) (by omega) (canN (ps.take k)) (by omega)
      rw [hcid] at hAT
      obtain ⟨q, hq⟩ : ∃ q, canN (ps.take k) = q := ⟨_, rfl⟩
      rw [hq] at hJ hql hs
      simp only [hq] at hAT
      have HJ := Lib.hid hJ
      have HS := Lib.hid hs
      have t0 : decide ((k : Int) < (n : Int) + 1) = true := by rw [decide_eq_true_eq]; omega
      have t1 : ¬ ((k : Int) < 0) := by omega
      have hka : k ≤ ac := by omega
      have hw2 : IntKind.i64.wrap ((k : Int) + 1) = (k : Int) + 1 := IntWalk.i64_in _ (by omega)
      have HK := Lib.hid (And.intro hk hlt)
      cases hnd : nd1 q with
      | some b =>
        have HA : Hid (∀ W, Below wr.heap.size wr W → Calls Tryz.prog 56 #[.pointer (some ⟨yb, 0, none⟩), .string ⟨q.toArray⟩] W fun e w' => e = .returned (.pointer (some ⟨b, 0, none⟩)) ∧ Below W.heap.size W w') := fun W hb => by have := hAT W hb; rw [hnd] at this; exact this
        have HSame : Hid (mkS S ps (k + 1) = mkS S ps k) := by
          show _ = _
          rw [hs]
          unfold put1
          obtain ⟨nn, hn1, _⟩ := hT.has hnd
          rw [hn1]; rfl
        clear hT hS htx hun hrow hJ hs hnd hk hlt hq hAT hwt hw3 hcid hl1
        go_wp2_with (first | (go_at_call 57; refine (HJ.out _ (by exact Below.refl _ _)).mono ?_; rintro e w2 ⟨rfl, hB⟩; have HB := Lib.hid hB; clear hB) | (go_at_call 56; refine (HA.out _ HB.out).mono ?_; rintro e w3 ⟨rfl, hB⟩; have HB3 : Hid (Below wr.heap.size wr w3) := HB.out.trans (hB.mono HB.out.size); clear hB))
        exact ⟨⟨k + 1, by have := HK.out; omega, by go_num, who1, nd1, l1, by rw [HSame.out]; exact HR.out.1.low HB3.out, HR.out.2.1.low HB3.out, by have := HR.out.2.2; omega⟩, by have := HK.out; simp [intOf]; omega⟩
      | none =>
        have HA : Hid (∀ W, Below wr.heap.size wr W → Calls Tryz.prog 56 #[.pointer (some ⟨yb, 0, none⟩), .string ⟨q.toArray⟩] W fun e w' => e = .returned (.pointer none) ∧ Below W.heap.size W w') := fun W hb => by have := hAT W hb; rw [hnd] at this; exact this
        have hSn := hT.none_of hnd
        have HSame : Hid (mkS S ps (k + 1) = setS (mkS S ps k) q .new) := by
          show _ = _
          rw [hs]
          unfold put1
          rw [hSn]; rfl
        obtain ⟨lo, lc, hcl, hown, htag⟩ := hT.lvOf
        have hbase := hT.base
        obtain ⟨ln, hln⟩ : ∃ ln, l1.length = ln := ⟨_, rfl⟩
        have HPU : Hid (∀ w5, Below wr.heap.size wr w5 → ∀ w6 g c, Kp (Value.slice lo ln lc).ownBlock.toList (w5.alloc (rnode q)) w6 → w6.ownsRow B 55 1 (.slice (some ⟨g, 0, none⟩) (ln + 1) c) (ln + 1) ((l1.map fun p => ptrN (nd1 p)) ++ [.pointer (some ⟨w5.heap.size, 0, none⟩)]) → ((Value.slice lo ln lc).ownBlock = some g ∨ (w5.alloc (rnode q)).heap.size ≤ g) →
            (∃ who' nd', RTr (w6.setCell ⟨yb, 0, none⟩ (.slice (some ⟨g, 0, none⟩) (ln + 1) c)) B yb who' nd' (setS (mkS S ps k) q .new) (l1 ++ [q]) ∧ Stp who who' w1 (w6.setCell ⟨yb, 0, none⟩ (.slice (some ⟨g, 0, none⟩) (ln + 1) c))) ∧ w6.cell? ⟨yb, 0, none⟩ = some (.slice lo ln lc) ∧ w6.frozen? ⟨yb, 0, none⟩ = false) := fun w5 hb w6 g c hk hr hg => by
          subst hln
          have hT5 := hT.low hb
          have hcl5 := (hb.block yb hT.lt).trans hcl
          obtain ⟨who', hT6, hS6⟩ := hT5.push hSn hcl5 hk hr hg
          refine ⟨⟨who', _, hT6, (hS.low hb).trans hS6⟩, ?_⟩
          have hy6 : w6.heap[yb]? = some (.cells #[.slice lo l1.length lc] 60 (0, 0)) := by
            rw [hk.block yb (by have := hT5.lt; simp; omega) (fun hm => by have := htag yb (by simpa using hm); rw [hT.wyb] at this; simp at this), Below.heap_alloc _ _ _ hT5.lt]; exact hcl5
          exact ⟨(vcells1 hy6).1, (vcells1 hy6).2 0⟩
        have HCE : Hid (∀ W, Below wr.heap.size wr W → W.cell? ⟨yb, 0, none⟩ = some (.slice lo ln lc) ∧ W.ownsRow B 55 1 (.slice lo ln lc) ln (l1.map fun p => ptrN (nd1 p))) := fun W hb => by
          subst hln
          exact ⟨(vcells1 ((hb.block yb hT.lt).trans hcl)).1, row_keep hown (fun g hg => hb.block g (hT.lo g (by rw [htag g hg]; simp)).2)⟩
        have hlb : ln ≤ 300000 := by omega
        have HLN := Lib.hid hln
        have HLL := Lib.hid (show ∃ L, L = l1.map fun p => ptrN (nd1 p) from ⟨_, rfl⟩)
        clear hT hS htx hun hrow hJ hs hnd hk hlt hq hAT hwt hw3 hcid hl1 hSn hcl hown htag hln
        go_wp2_with (first | (go_at_call 57; refine (HJ.out _ (by exact Below.refl _ _)).mono ?_; rintro e w2 ⟨rfl, hB⟩; have HB := Lib.hid hB; clear hB) | (go_at_call 56; refine (HA.out _ HB.out).mono ?_; rintro e w3 ⟨rfl, hB⟩; have HB3 : Hid (Below wr.heap.size wr w3) := HB.out.trans (hB.mono HB.out.size); clear hB))
        have hc3 := (HCE.out w3 HB3.out).1
        go_region_law (first | (refine step_callF rfl 57 _ _ rfl #[.slice ao k ac] (by simp [Act.eval, Act.put]) (fun w => enters_of Tryz.func57 (by kernel_rfl) rfl _ w) ?_; refine (HJ.out _ (by exact HB3.out.drew)).mono ?_; rintro e w5 ⟨rfl, hB⟩; refine ⟨_, rfl, ?_⟩; have hb5 : Below wr.heap.size wr w5 := (HB3.out.drew).trans (hB.mono HB3.out.size); have HB5 := Lib.hid hb5; have hc5 := (HCE.out w5 hb5).1; have hc5a := fun o => (HCE.out (w5.alloc o) (hb5.alloc hb5.size o)).1; have hc5b := fun o o' => (HCE.out ((w5.alloc o).alloc o') ((hb5.alloc hb5.size o).alloc (hb5.alloc hb5.size o).size o')).1; clear hB hb5) | (refine step_append_one rfl (.tmp 28) (.tmp 35) 58 rfl B 55 (.pointer none) 8 Tryz.underlying58 infoSp rfl (.slice lo ln lc) ln _ (by simp [Act.eval, Act.put]) (w5.alloc (rnode q)) (HCE.out _ (HB5.out.alloc HB5.out.size _)).2 (.pointer (some ⟨w5.heap.size, 0, none⟩)) rfl (by simp [Act.eval, Act.put]) rfl (by unfold maxLen; omega) (by omega) (by have := HB5.out.size; simp; omega) ?_; intro g c6 w6 hg6 hr6 hk6 hl6; obtain ⟨hpu, hx6, hf6⟩ := HPU.out w5 HB5.out w6 g c6 hk6 hr6 hl6; have HP6 := Lib.hid hpu; clear hpu hg6 hr6 hk6 hl6))
        all_goals
          go_wp2_with fail
          obtain ⟨who6, nd6, hT6, hS6⟩ := HP6.out
          exact ⟨⟨k + 1, by have := HK.out; omega, by go_num, who6, nd6, _, by rw [HSame.out]; exact hT6, hS6, by have := HR.out.2.2; simp; omega⟩, by have := HK.out; simp [intOf]; omega⟩
    · have hke : k = n + 1 := by omega
      subst hke
      have t0 : decide (((n + 1 : Nat) : Int) < (n : Int) + 1) = false := by rw [decide_eq_false_iff_not]; omega
      clear hT hS hk hlt hl1
      go_wp2_with fail
      go_ret
      exact ⟨rfl, who1, nd1, l1, HR.out.1, (Stp.of_below HP.out.2).trans HR.out.2.1⟩
end Go.Proofs.YtjgdfgpnmmkjfaaGreatDoor

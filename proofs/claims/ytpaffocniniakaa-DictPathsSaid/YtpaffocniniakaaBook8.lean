/- Merge. -/
import Derived.Test.YtpaffocniniakaaBookB
namespace Go.Proofs.Ytpaffocniniakaa
set_option linter.unusedVariables false
set_option linter.unusedSimpArgs false
open Go.RowKit Go.MapKept Go.WideMaps
attribute [local go_sem] Oper.semAt_some wide_fn

def mergeL : List Bs → Prs → Option Prs
  | [], a => some a
  | s :: r, a => (readC s).bind fun q => mergeL r (addP a q)
def mergeE (ss : List Bs) : Bs × Int := match mergeL ss [] with | none => ([], 11) | some a => joinE (flatP a)
/-- A pair as 'set' can bear it. -/
def clipP (x : Bs × Bs) : Bs × Bs := (x.1.take 1000000, x.2)
theorem clipP_id {x : Bs × Bs} (h : x.1.length ≤ 1000000) : clipP x = x := by
  unfold clipP
  rw [List.take_of_length_le h]
theorem clipP_len (x : Bs × Bs) : (clipP x).1.length ≤ maxLen := by unfold clipP maxLen; simp; omega
theorem wt_key {a : Prs} {p : Bs × Bs} (h : p ∈ a) : p.1.length ≤ wt (flatP a) := by
  induction a with
  | nil => cases h
  | cons q a ih =>
    simp only [flatP, wt]
    rcases List.mem_cons.1 h with rfl | h
    · omega
    · have := ih h; omega
theorem clip_all {a : Prs} (h : wt (flatP a) ≤ 1000000) : ∀ p ∈ a, clipP p = p := fun p hp => clipP_id (by have := wt_key hp; omega)
theorem map_clip {a : Prs} (h : ∀ p ∈ a, clipP p = p) : a.map clipP = a := by
  conv => rhs; rw [← List.map_id a]
  exact List.map_congr_left h
def sumL (ss : List Bs) : Nat := (ss.map List.length).sum
theorem sumL_take {ss : List Bs} {k : Nat} (h : k < ss.length) : sumL (ss.take (k + 1)) = sumL (ss.take k) + ss[k].length := by
  unfold sumL
  rw [List.take_succ_eq_append_getElem h, List.map_append, List.sum_append]
  simp
theorem sumL_le (ss : List Bs) (k : Nat) : sumL (ss.take k) ≤ sumL ss := by
  unfold sumL
  conv => rhs; rw [← List.take_append_drop k ss]
  rw [List.map_append, List.sum_append]
  omega
theorem sumL_at {ss : List Bs} {k : Nat} (h : k < ss.length) : ss[k].length ≤ sumL ss := by
  have h1 := sumL_take h
  have h2 := sumL_le ss (k + 1)
  omega
/-- What holds at Merge's loop's head. -/
structure MgI (w : World) (ss : List Bs) (b m bo : Nat) (k : Nat) (acc : Prs) (Ds : List Nat) (W : World) : Prop where
  eq : mergeL (ss.drop k) acc = mergeL ss []
  bk : ∃ F, Bk W b F acc ∧ ∀ d ∈ F, w.heap.size ≤ d ∧ d ≠ bo
  m1 : W.cell? ⟨b, 1, none⟩ = some (.map (some m))
  box : Boxed W bo 38 (.pointer (some ⟨b, 0, none⟩))
  ds : ∀ D ∈ Ds, w.heap.size ≤ D ∧ W.heap[D]? = some (.deferred (some []))
  nd : Ds.Nodup
  below : Below w.heap.size w W
  bol : w.heap.size ≤ bo
  wtb : wt (flatP acc) ≤ 5 * sumL (ss.take k)
/-- What holds while a dictionary's pairs are set. -/
structure MgJ (w : World) (b m bo : Nat) (acc : Prs) (Ds F2 : List Nat) (bx B2 : Nat) (pre : Prs) (W : World) : Prop where
  bk : ∃ F, Bk W b F (addP acc (pre.map clipP)) ∧ ∀ d ∈ F, w.heap.size ≤ d ∧ d ∉ F2 ∧ d ≠ bx ∧ d ≠ bo
  m1 : W.cell? ⟨b, 1, none⟩ = some (.map (some m))
  box : Boxed W bo 38 (.pointer (some ⟨b, 0, none⟩))
  ds : ∀ D ∈ Ds, W.heap[D]? = some (.deferred (some []))
  below : Below w.heap.size w W
  size : B2 ≤ W.heap.size
theorem mgj_own {w : World} {b m bo : Nat} {acc : Prs} {Ds F2 : List Nat} {bx B2 : Nat} (hm : m < B2) (hD : ∀ D ∈ Ds, D < B2) (hB : w.heap.size ≤ B2) : OwnFrom B2 (MgJ w b m bo acc Ds F2 bx B2) := fun pre W W' row h hg hr => by
  have hr' := fun r e => (hr r e).2
  obtain ⟨F, hb, hF⟩ := h.bk
  have hco := (hb.cells_or h.m1).2
  have key : ∀ d ∈ F, W'.heap[d]? = W.heap[d]? := fun d hd => by
    refine hg.block d (hb.lt d hd) (fun e => ?_)
    obtain ⟨hr1, o, ho, hc⟩ := hr d e.symm
    by_cases hdm : d = m
    · omega
    · obtain ⟨c, t, hct⟩ := hco d hd hdm
      rw [hct] at ho; cases ho; cases hc
  refine ⟨⟨F, hb.kb (x := b) ⟨key b hb.mem, key⟩, hF⟩, ?_, boxed_grown h.box hg hr', fun D hD' => ?_, h.below.grown hg h.below.size (fun r e => Nat.le_trans hB (hr r e).1), Nat.le_trans h.size hg.size⟩
  · have := h.m1
    simp only [World.cell?, key b hb.mem] at this ⊢
    exact this
  · have hDh := h.ds D hD'
    exact (hg.block D (Array.getElem?_eq_some_iff.1 hDh).1 (fun e => by have := (hr D e.symm).1; have := hD D hD'; omega)).trans hDh
theorem mg_set {w W W' : World} {b m bo bx B2 : Nat} {acc pre : Prs} {x : Bs × Bs} {Ds F2 : List Nat} (h : MgJ w b m bo acc Ds F2 bx B2 pre W) (hm : m < B2) (hD : ∀ D ∈ Ds, D < B2) (hF2 : ∀ d ∈ F2, d < B2) (hbx : bx < B2) (hbo : bo < B2) {F : List Nat} (hF : ∀ d ∈ F, w.heap.size ≤ d ∧ d ∉ F2 ∧ d ≠ bx ∧ d ≠ bo) (hb : Bk W b F (addP acc (pre.map clipP))) (hr : SetRes W b F (setP (addP acc (pre.map clipP)) (clipP x).1 (clipP x).2) W') :
    KeepsFrom B2 W W' ∧ KB F2 bx W W' ∧ MgJ w b m bo acc Ds F2 bx B2 (pre ++ [x]) W' := by
  obtain ⟨F', hb', hk, hF', hc⟩ := hr
  have hco := (hb.cells_or h.m1).2
  have hs := h.size
  have hs2 := h.below.size
  have nD : ∀ D, B2 ≤ D ∨ True → (∃ o : Obj, W.heap[D]? = some o ∧ o.isCells = false) → D ≠ m → D ∉ F := fun D _ ⟨o, ho, hcc⟩ hne hDF => by
    obtain ⟨c, t, hct⟩ := hco D hDF hne
    rw [hct] at ho; cases ho; cases hcc
  refine ⟨⟨hk.size, fun k o hkB ho hcc => (hk.block k (Array.getElem?_eq_some_iff.1 ho).1 (nD k (.inr trivial) ⟨o, ho, hcc⟩ (by omega))).trans ho⟩, ⟨hk.block bx (by omega) (fun hd => (hF bx hd).2.2.1 rfl), fun d hd => hk.block d (by have := hF2 d hd; omega) (fun hdF => (hF d hdF).2.1 hd)⟩, ⟨F', by rw [List.map_append, List.map_cons, List.map_nil, add_snoc]; exact hb', fun d hd => ?_⟩, hc.trans h.m1, (hk.block bo (by omega) (fun hd => (hF bo hd).2.2.2 rfl)).trans h.box, fun D hD' => ?_, h.below.trans (hk.below hs2 (fun d hd => (hF d hd).1)), Nat.le_trans hs hk.size⟩
  · rcases hF' d hd with h1 | h1
    · exact hF d h1
    · exact ⟨by omega, fun hd2 => by have := hF2 d hd2; omega, by omega, by omega⟩
  · have hDh := h.ds D hD'
    refine (hk.block D (Array.getElem?_eq_some_iff.1 hDh).1 ?_).trans hDh
    refine nD D (.inr trivial) ⟨_, hDh, rfl⟩ ?_
    rintro rfl
    obtain ⟨kv, vv, m', hbb, _, _, hmm, _⟩ := hb.ex
    have e := (cells3 hbb).2.1.symm.trans h.m1
    cases e
    obtain ⟨es, clock, h1, _⟩ := hmm
    rw [hDh] at h1; cases h1
set_option maxRecDepth 100000 in
set_option maxHeartbeats 3200000 in
theorem Merge_any (v : Value) (ss : List Bs) (w : World) (hM : MaxIs w) (hr : TxtRow w v ss) (hsum : sumL ss ≤ 19999) :
    Calls Try.prog 11 #[v] w fun e w' => e = .returned (.tuple #[.string ⟨(mergeE ss).1.toArray⟩, .int .i64 (mergeE ss).2]) ∧ Below w.heap.size w w' := by
  obtain ⟨o, c, rfl, hlc, hcm, hcells⟩ := hr
  unfold maxLen at hcm
  have HC := Lib.hid hcells
  have HM := Lib.hid hM
  have hm0 := hM.pos
  clear hcells hM
  obtain ⟨me, hme⟩ : ∃ me, mergeE ss = me := ⟨_, rfl⟩
  rw [hme]
  have HME := Lib.hid hme
  clear hme
  refine callsIn_wide (n := 3) |>.1 ?_
  refine callsIn_of_wp_marks Try.func11 rfl trivial ?_ rfl
  simp only [Try.ntmps11, List.size_toArray, List.length_cons, List.length_nil, Nat.reduceAdd, Nat.reduceSub, Array.replicate_succ, Array.replicate_zero, List.push_toArray, List.append_toArray, List.nil_append, List.cons_append]
  gi_wp2_with (gi_at_call 34; refine (callsIn_wide.2 (none_any _)).mono ?_; rintro e w1 ⟨b, F, rfl, hb, hB, hF⟩)
  have HBN := Lib.hid (And.intro hb (And.intro hB hF))
  have bO := Boxed.new w1 38 (.pointer (some ⟨b, 0, none⟩))
  obtain ⟨kv0, vv0, m, hbb, _, _, hmm, _⟩ := hb.ex
  have hm1 := (cells3 hbb).2.1
  have hmlt := hmm.lt
  have hs1 := hB.size
  have hI0 : MgI w ss b m w1.heap.size 0 [] [] (w1.alloc (.cells #[.pointer (some ⟨b, 0, none⟩)] 38)) := ⟨rfl, ⟨F, hb.below ((Below.refl _ w1).alloc (Nat.le_refl _) _), fun d hd => ⟨hF d hd, by have := hb.lt d hd; omega⟩⟩, (((Below.refl _ w1).alloc (Nat.le_refl _) (.cells #[.pointer (some ⟨b, 0, none⟩)] 38)).cell (p := ⟨b, 1, none⟩) (hb.lt b hb.mem)).trans hm1, bO, by simp, List.nodup_nil, hB.alloc hs1 _, hs1, by simp [flatP, wt]⟩
  obtain ⟨bo, hbo⟩ : ∃ bo, w1.heap.size = bo := ⟨_, rfl⟩
  rw [hbo] at hI0 ⊢
  have hI1 : w1.heap.size + 1 = (w1.alloc (.cells #[.pointer (some ⟨b, 0, none⟩)] 38)).heap.size := by simp
  generalize (w1.alloc (.cells #[.pointer (some ⟨b, 0, none⟩)] 38)) = w2 at *
  clear hb hB hF bO hbb hmm hm1
  refine wpIn_loop (fun a W => ∃ (u6 u7 u8 u9 u10 u15 u16 u17 u18 u19 u20 u21 u22 u23 u24 u25 u26 u27 u28 u29 u30 u31 u32 u33 u34 : Value) (k : Nat) (acc : Prs) (Ds : List Nat), k ≤ ss.length ∧ w2.heap.size ≤ W.heap.size ∧ MgI w ss b m bo k acc Ds W ∧ a = { tmps := #[.slice o ss.length c, undef, .string ⟨#[]⟩, .int .i64 0, .pointer (some ⟨bo, 0, none⟩), undef, u6, u7, u8, u9, u10, .pointer (some ⟨b, 0, none⟩), .slice o ss.length c, .int .i64 (ss.length : Int), .int .i64 (k : Int), u15, u16, u17, u18, u19, u20, u21, u22, u23, u24, u25, u26, u27, u28, u29, u30, u31, u32, u33, u34, undef, undef, undef, undef], defers := Ds.map mark }) (fun a _ => ss.length - (intOf (a.tmps.getD 14 undef)).toNat) ?start ?round
  case start => exact ⟨undef, undef, undef, undef, undef, undef, undef, undef, undef, undef, undef, undef, undef, undef, undef, undef, undef, undef, undef, undef, undef, undef, undef, undef, undef, 0, [], [], Nat.zero_le _, Nat.le_refl _, hI0, rfl⟩
  case round =>
    rintro _ wr ⟨u6, u7, u8, u9, u10, u15, u16, u17, u18, u19, u20, u21, u22, u23, u24, u25, u26, u27, u28, u29, u30, u31, u32, u33, u34, k, acc, Ds, hk, hsz, hI, rfl⟩
    have hcb := hI.box.cell
    have HI := Lib.hid hI
    by_cases hlt : k < ss.length
    · obtain ⟨cb, off, rfl, hbl, hc0⟩ := HC.out k hlt
      have hc1 := (hI.below.cell (p := ⟨cb, off + k, none⟩) hbl).trans hc0
      have hkc : (k : Int) < (c : Int) := by omega
      have hsk := sumL_at hlt
      have htk := sumL_take hlt
      have HD : Hid (ss.drop k = ss[k] :: ss.drop (k + 1)) := List.drop_eq_getElem_cons hlt
      have hst := sumL_le ss (k + 1)
      obtain ⟨s, hss⟩ : ∃ s, ss[k] = s := ⟨_, rfl⟩
      rw [hss] at hc1 hsk htk HD
      have RD : Hid (∀ W, Calls Try.prog 29 #[.string ⟨s.toArray⟩] W (ReadRes s W)) := fun W => read_any s (by omega) W
      have HT := Lib.hid (And.intro htk hst)
      clear hI hc0 hss htk hst
      cases hrd : readC s with
      | none =>
        have RD2 : Hid (∀ W, Calls Try.prog 29 #[.string ⟨s.toArray⟩] W fun e w' => Below W.heap.size W w' ∧ e = .returned (.tuple #[.pointer none, .int .i64 11])) := fun W => (RD.out W).mono fun e w' ⟨h1, h2⟩ => ⟨h1, by
          rcases h2 with ⟨_, h⟩ | ⟨_, _, _, h, _⟩
          · exact h
          · rw [hrd] at h; cases h⟩
        have hje : me = ([], 11) := by
          rw [← HME.out]
          have := HI.out.eq
          rw [HD.out] at this
          unfold mergeE
          rw [← this, mergeL, hrd]; rfl
        clear RD hrd
        gi_wp2_with (gi_at_call 29; refine (callsIn_wide.2 (RD2.out _)).mono ?_; rintro e w3 ⟨hB3, rfl⟩; have H3 := Lib.hid hB3; clear hB3)
        refine leaves_marks Ds _ (fun D hD => ?_) HI.out.nd (fun w' hk' => ?_)
        · have := (HI.out.ds D hD).2
          exact (H3.out.block D (Array.getElem?_eq_some_iff.1 this).1).trans this
        · refine ⟨_, results_tmp2 rfl _ _ _, by rw [hje]; rfl, (HI.out.below.trans (H3.out.mono HI.out.below.size)).trans (hk'.below (Nat.le_trans HI.out.below.size H3.out.size) (fun D hD => (HI.out.ds D hD).1))⟩
      | some q =>
        have RD2 : Hid (∀ W, Calls Try.prog 29 #[.string ⟨s.toArray⟩] W fun e w' => Below W.heap.size W w' ∧ ∃ b F, e = .returned (.tuple #[.pointer (some ⟨b, 0, none⟩), .int .i64 0]) ∧ Bk w' b F q ∧ ∀ d ∈ F, W.heap.size ≤ d) := fun W => (RD.out W).mono fun e w' ⟨h1, h2⟩ => ⟨h1, by
          rcases h2 with ⟨h, _⟩ | ⟨b2, F2, ps, h, he, hb, hF⟩
          · rw [hrd] at h; cases h
          · rw [hrd] at h; cases h; exact ⟨b2, F2, he, hb, hF⟩⟩
        have hql := read_len hrd
        have hqw := read_wt hrd
        have HE : Hid (mergeL (ss.drop (k + 1)) (addP acc q) = mergeL ss []) := by
          show _ = _
          have := HI.out.eq
          rw [HD.out, mergeL, hrd] at this
          exact this
        clear RD hrd
        gi_wp2_with (first | (gi_at_call 29; refine (callsIn_wide.2 (RD2.out _)).mono ?_; rintro e w3 ⟨hB3, b2, F2, rfl, hb2, hF2⟩; have H3 := Lib.hid (And.intro hB3 (And.intro hb2 hF2)); clear hB3 hb2 hF2) | (gi_at_call 30; refine (callsIn_wide.2 (all_any _ _)).mono ?_; rintro e w4 ⟨rfl, rfl⟩))
        obtain ⟨F, hbF, hFF⟩ := HI.out.bk
        have hmF := (hbF.cells_or HI.out.m1).1
        have hFlt := hbF.lt
        have s3 := H3.out.1.size
        have hB34 : Below wr.heap.size wr (w3.alloc (.cells #[.pointer (some ⟨b2, 0, none⟩)] 38)) := H3.out.1.alloc s3 _
        have hbx := (Boxed.new w3 38 (.pointer (some ⟨b2, 0, none⟩))).cell
        have hbk2 := H3.out.2.1.below ((Below.refl _ w3).alloc (Nat.le_refl _) (.cells #[.pointer (some ⟨b2, 0, none⟩)] 38))
        have hF2lt := H3.out.2.1.lt
        have hs4 : (w3.alloc (.cells #[.pointer (some ⟨b2, 0, none⟩)] 38)).heap.size = w3.heap.size + 1 := by simp
        have hlo := HI.out.below.size
        have hJ0 : MgJ w b m bo acc Ds F2 w3.heap.size (w3.alloc (.cells #[.pointer (some ⟨b2, 0, none⟩)] 38)).heap.size [] (w3.alloc (.cells #[.pointer (some ⟨b2, 0, none⟩)] 38)) :=
          ⟨⟨F, hbF.below hB34, fun d hd => ⟨(hFF d hd).1, fun h2 => by have := H3.out.2.2 d h2; have := hFlt d hd; omega, by have := hFlt d hd; omega, (hFF d hd).2⟩⟩, (hB34.cell (p := ⟨b, 1, none⟩) (hFlt b hbF.mem)).trans HI.out.m1, (hB34.block bo HI.out.box.lt).trans HI.out.box, fun D hD => (hB34.block D (Array.getElem?_eq_some_iff.1 (HI.out.ds D hD).2).1).trans (HI.out.ds D hD).2, HI.out.below.trans (hB34.mono hlo), Nat.le_refl _⟩
        have hmB : m < (w3.alloc (.cells #[.pointer (some ⟨b2, 0, none⟩)] 38)).heap.size := by have := hFlt m hmF; omega
        have hDB : ∀ D ∈ Ds, D < (w3.alloc (.cells #[.pointer (some ⟨b2, 0, none⟩)] 38)).heap.size := fun D hD => by have := (Array.getElem?_eq_some_iff.1 (HI.out.ds D hD).2).1; omega
        have hboB : bo < (w3.alloc (.cells #[.pointer (some ⟨b2, 0, none⟩)] 38)).heap.size := by have := HI.out.box.lt; omega
        have hbxB : w3.heap.size < (w3.alloc (.cells #[.pointer (some ⟨b2, 0, none⟩)] 38)).heap.size := by omega
        have hF2B : ∀ d ∈ F2, d < (w3.alloc (.cells #[.pointer (some ⟨b2, 0, none⟩)] 38)).heap.size := fun d hd => by have := hF2lt d hd; omega
        have hcl := clip_all (a := q) (by have := HT.out.1; omega)
        have hmc := map_clip hcl
        have hacc : acc.length ≤ 100000 := by
          have h1 := wt_len (flatP acc)
          have h2 := HI.out.wtb
          have h3 := sumL_le ss k
          rw [flatP_len] at h1; omega
        have hqn : q.length ≤ 100000 := by omega
        generalize (w3.alloc (.cells #[.pointer (some ⟨b2, 0, none⟩)] 38)) = w4 at *
        refine wpIn_rangeFunc_ownG rfl (by omega) (gf := 57) (lb := #[.pointer (some ⟨w3.heap.size, 0, none⟩)]) rfl trivial (enters_of Try.func57 (by kernel_rfl) rfl)
          (all_stops w3.heap.size b2 F2 q (by omega) clipP hcl w4 hbxB hbx hbk2) KB.trans (kb_put hbxB hF2B) (Below.refl _ _) (fun _ => rfl)
          (MgJ w b m bo acc Ds F2 w3.heap.size w4.heap.size) (fun _ _ _ => False) (mgj_own hmB hDB (by omega)) (fun _ _ _ _ _ hs _ _ => hs) hJ0
          (fun x => { tmps := #[.slice (some ⟨cb, off, none⟩) ss.length c, undef, .string ⟨#[]⟩, .int .i64 0, .pointer (some ⟨bo, 0, none⟩), undef, sv s, .pointer (some ⟨b2, 0, none⟩), .int .i64 0, .string ⟨(clipP x).1.toArray⟩, .string ⟨(clipP x).2.toArray⟩, .pointer (some ⟨b, 0, none⟩), .slice (some ⟨cb, off, none⟩) ss.length c, .int .i64 (ss.length : Int), .int .i64 (k : Int), .bool true, .pointer (some ⟨cb, off + k, none⟩), sv s, .tuple #[.pointer (some ⟨b2, 0, none⟩), .int .i64 0], sv s, .tuple #[.pointer (some ⟨b2, 0, none⟩), .int .i64 0], .pointer (some ⟨b2, 0, none⟩), .int .i64 0, .int .i64 0, .bool false, u25, .pointer (some ⟨b2, 0, none⟩), .func (.func 57) #[] #[.pointer (some ⟨w3.heap.size, 0, none⟩)], .string ⟨(clipP x).1.toArray⟩, .string ⟨(clipP x).2.toArray⟩, u30, u31, u32, u33, u34, undef, undef, undef, undef], defers := [] }) ?assign ?body ?done ?stop
        case assign =>
          intro l x W K hK
          gi_wp2
          exact hK
        case body =>
          rintro l pre x W hJ hpl
          obtain ⟨F, hb, hF⟩ := hJ.bk
          have hcb' := hJ.box.cell
          have HX := Lib.hid (And.intro hJ (And.intro hb hF))
          have hln := add_len acc (pre.map clipP)
          rw [List.length_map] at hln
          have SET : Hid (Calls Try.prog 35 #[.pointer (some ⟨b, 0, none⟩), .string ⟨(clipP x).1.toArray⟩, .string ⟨(clipP x).2.toArray⟩] W fun e w' => e = .returned (.tuple #[]) ∧ SetRes W b F (setP (addP acc (pre.map clipP)) (clipP x).1 (clipP x).2) w') := set_any hb _ _ (clipP_len x) (by omega)
          have HG : Hid (∀ W', SetRes W b F (setP (addP acc (pre.map clipP)) (clipP x).1 (clipP x).2) W' → KeepsFrom w4.heap.size W W' ∧ KB F2 w3.heap.size W W' ∧ MgJ w b m bo acc Ds F2 w3.heap.size w4.heap.size (pre ++ [x]) W') := fun W' h => mg_set hJ hmB hDB hF2B hbxB hboB hF hb h
          clear hJ hb hF hln hJ0 hbx hbk2
          generalize clipP x = y at *
          gi_wp2_with (gi_at_call 35; refine (callsIn_wide.2 SET.out).mono ?_; rintro e W2 ⟨rfl, hs2⟩; have HS := Lib.hid hs2; clear hs2)
          exact HG.out _ HS.out
        case done =>
          rintro D ys W hDl hys hJ hKd
          obtain ⟨F', hb', hF'⟩ := hJ.bk
          rw [hys, hmc] at hb'
          have HX := Lib.hid (And.intro hJ (And.intro hb' (And.intro hF' (And.intro hKd (And.intro hDl (And.intro hDB (And.intro hqw hlo)))))))
          have hD4 := hJ.size
          clear hJ hb' hF' hKd hJ0 hbx hbk2 hDB hys hqw
          gi_wp2
          refine ⟨⟨_, _, _, _, _, _, _, _, _, _, _, _, _, _, _, _, _, _, _, _, _, _, _, _, _, k + 1, addP acc q, D :: Ds, hlt, by omega, ?_, rfl⟩, by simp [intOf]; omega⟩
          obtain ⟨q1, q2, q3, q4, q5, q6, q7, q8⟩ := HX.out
          refine ⟨HE.out, ⟨F', q2, fun d hd => ⟨(q3 d hd).1, (q3 d hd).2.2.2⟩⟩, q1.m1, q1.box, fun E hE => ?_, ?_, q1.below, HI.out.bol, ?_⟩
          · rcases List.mem_cons.1 hE with rfl | hE
            · exact ⟨by omega, q4⟩
            · exact ⟨(HI.out.ds E hE).1, q1.ds E hE⟩
          · rw [List.nodup_cons]
            exact ⟨fun hE => by have := q6 D hE; omega, HI.out.nd⟩
          · have h1 := add_wt acc q
            have h2 := HI.out.wtb
            have h3 := HT.out.1
            omega
        case stop =>
          rintro D c pre W _ _ h _
          exact h.elim
    · obtain rfl : k = ss.length := by omega
      have hje : joinE (flatP acc) = me := by
        rw [← HME.out]
        have := hI.eq
        rw [List.drop_length] at this
        unfold mergeE
        rw [← this]; rfl
      obtain ⟨F, hbF, _⟩ := hI.bk
      have hal : acc.length ≤ 1000000 := by
        have h1 := wt_len (flatP acc)
        have h2 := hI.wtb
        have h3 := sumL_le ss ss.length
        rw [flatP_len] at h1; omega
      have TX := text_any hbF hal (HM.out.below hI.below hm0)
      rw [hje] at TX
      have HTX := Lib.hid TX
      clear TX hI hbF hje hI0
      gi_wp2_with (gi_at_call 36; refine (callsIn_wide.2 HTX.out).mono ?_; rintro e w3 ⟨rfl, hB3⟩; have H3 := Lib.hid hB3; clear hB3)
      refine leaves_marks Ds _ (fun D hD => ?_) HI.out.nd (fun w' hk' => ?_)
      · have := (HI.out.ds D hD).2
        exact (H3.out.block D (Array.getElem?_eq_some_iff.1 this).1).trans this
      · refine ⟨_, results_tmp2 rfl _ _ _, rfl, (HI.out.below.trans (H3.out.mono HI.out.below.size)).trans (hk'.below (Nat.le_trans HI.out.below.size H3.out.size) (fun D hD => (HI.out.ds D hD).1))⟩
end Go.Proofs.Ytpaffocniniakaa

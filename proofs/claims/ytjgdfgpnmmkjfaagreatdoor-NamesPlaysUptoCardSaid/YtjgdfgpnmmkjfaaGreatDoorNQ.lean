/- The program's questions: 'Children'. -/
import Derived.Test.YtjgdfgpnmmkjfaaGreatDoorNRQ
import Derived.Test.YtjgdfgpnmmkjfaaGreatDoorGlob2
import Derived.Test.YtjgdfgpnmmkjfaaGreatDoorNBel2
namespace Go.Proofs.YtjgdfgpnmmkjfaaGreatDoor
set_option linter.unusedVariables false
set_option linter.unusedSimpArgs false
open Go.RowKit Go.Shelf
/-- The worlds that have a property. -/
structure HeldP (P : World → Prop) where
  val : World
  is : P val
theorem heldP_call {F : Fence} {r : Nat} {P : Program} {f : FuncId} {args : Array Value} {P' : World → Prop} {x : HeldP P'} {v : Value} (h : CallsIn F r P f args x.val fun e w' => e = .returned v ∧ P' w') : CallsIn F r P f args x.val fun e w'' => e = .returned v ∧ ∃ y : HeldP P', w'' = y.val :=
  h.mono fun _ w' ⟨he, hm⟩ => ⟨he, ⟨w', hm⟩, rfl⟩
theorem boxLow {W W' : World} {b : Nat} {t : TypeId} {v : Value} (h : Boxed W b t v) (hb : Below W.heap.size W W') : Boxed W' b t v := (hb.block b h.lt).trans h
/-- A box told anew, and a new list behind it. -/
theorem put_box {w w2 : World} {b1 b2 : Nat} {t : TypeId} {x y v : Value} (hB : Below w.heap.size w w2) (hb : w.heap.size ≤ b1) (h1 : Boxed w2 b1 t x) (h2 : Boxed w2 b2 t y) (hne : b2 ≠ b1 := by omega) :
    Boxed ((w2.setCell ⟨b1, 0, none⟩ v).alloc (.cells #[.slice none 0 0] 27)) b1 t v ∧ Boxed ((w2.setCell ⟨b1, 0, none⟩ v).alloc (.cells #[.slice none 0 0] 27)) b2 t y ∧
      Boxed ((w2.setCell ⟨b1, 0, none⟩ v).alloc (.cells #[.slice none 0 0] 27)) w2.heap.size 27 (.slice none 0 0) ∧ Below w.heap.size w ((w2.setCell ⟨b1, 0, none⟩ v).alloc (.cells #[.slice none 0 0] 27)) := by
  have e1 : Boxed (w2.setCell ⟨b1, 0, none⟩ v) b1 t v := heap_setCell_same w2 b1 0 _ _ v h1
  have e2 : Boxed (w2.setCell ⟨b1, 0, none⟩ v) b2 t y := (Below.heap_setCell w2 ⟨b1, 0, none⟩ v b2 hne).trans h2
  have hsz : (w2.setCell ⟨b1, 0, none⟩ v).heap.size = w2.heap.size := by simp [World.setCell]
  have hb3 : Below w.heap.size w (w2.setCell ⟨b1, 0, none⟩ v) := ⟨hB.os, hB.tape, hB.output, by rw [hsz]; exact hB.size, fun k hk => (Below.heap_setCell w2 ⟨b1, 0, none⟩ v k (by show k ≠ b1; omega)).trans (hB.block k hk)⟩
  refine ⟨e1.alloc _, e2.alloc _, ?_, hb3.alloc hb3.size _⟩
  have := Boxed.new (w2.setCell ⟨b1, 0, none⟩ v) 27 (.slice none 0 0)
  rw [hsz] at this
  exact this
def chC (key pat p : Bs) : Bool := (headN p == key) && qB pat (tailN p)
/-- What 'Children' has gathered. -/
def chF (key pat : Bs) (pre : List Bs) : List Bs := (pre.map cutS).filter (chC key pat)
theorem chF_snoc (key pat : Bs) (pre : List Bs) (x : Bs) : chF key pat (pre ++ [x]) = chF key pat pre ++ (if chC key pat (cutS x) = true then [cutS x] else []) := by
  unfold chF
  rw [List.map_append, List.filter_append]
  congr 1
  by_cases h : chC key pat (cutS x) = true <;> simp [h]
theorem chF_len (key pat : Bs) (pre : List Bs) : (chF key pat pre).length ≤ pre.length := by
  unfold chF
  have := List.length_filter_le (chC key pat) (pre.map cutS)
  simpa using this
theorem wpIn_region_held_round {F : Fence} {n l : Nat} {P : Program} {id : Nat} {Q : Exit → Act → World → Prop} {a : Act} {w : World} {ls : List Oper} (P' : World → Prop) (hw0 : P' w.drew) (hro : F.round = none) (hm : P.follows .mixedOrders = true) (hB : Region.lexB .any ls.toArray = true) (hnd : ls.all noDefer = true)
    (h : wpQuietIn F n P ls.toArray (fun w' => ∃ x : HeldP P', w' = x.val) (fun a' => ∀ w', (∃ x : HeldP P', w' = x.val) → Q .normal a' w') ls a) : (Code.region id ls.toArray true).wpIn (F.inRound l) n P Q a w := by
  simp only [Region.lexB, Bool.and_eq_true] at hB
  refine wpIn_region_any hm (wpAnyIn_round hro (fun i o ho => ?_) .any _ _ _ _ (wpAnyIn_of_quiet (C := fun w' => ∃ x : HeldP P', w' = x.val) (Q := fun a' => ∀ w', (∃ x : HeldP P', w' = x.val) → Q .normal a' w') hro (fun _ w' hw' h => h w' hw') _ _ _ _ ⟨⟨w.drew, hw0⟩, rfl⟩ ?_))
  · rw [List.all_eq_true] at hnd
    exact hnd o (List.mem_of_getElem? (i := i) (by simpa using ho))
  · have := wpAnyQIn_lex (F := F) (n := n) (C := fun w' => ∃ x : HeldP P', w' = x.val) (md := .any) hB.1 ls 0 (Array.replicate ls.toArray.size false) a (by simp) (by simpa using hB.2) h
    simpa using this
/-- What holds while 'Children' ranges. -/
structure ChJ (w : World) (bP D N : Nat) (key pat : Bs) (pre : List Bs) (W : World) : Prop where
  row : ∃ v, Boxed W D 27 v ∧ W.ownsRow N 9 1 v (chF key pat pre).length ((chF key pat pre).map sv) ∧ True
  p : Boxed W bP 9 (.string ⟨key.toArray⟩)
  q : Boxed W (bP + 1) 9 (.string ⟨pat.toArray⟩)
  size : N ≤ W.heap.size
  below : Below w.heap.size w W
theorem chj_own {w : World} {bP D N C : Nat} {key pat : Bs} (hP : bP + 1 < C) (hw : w.heap.size ≤ C) (hC : N ≤ C) : OwnFrom C (ChJ w bP D N key pat) := fun pre W W' row h hg hr => by
  have hr' := fun r e => (hr r e).2
  exact ⟨holdsRow_own N D 27 9 1 (fun pre : List Bs => (chF key pat pre).length) (fun pre => (chF key pat pre).map sv) (fun _ _ => True) pre W W' row h.row hg hr', h.p.kept hg (fun e => by have := (hr bP e.symm).1; omega), h.q.kept hg (fun e => by have := (hr (bP + 1) e.symm).1; omega), Nat.le_trans h.size hg.size, h.below.grown hg h.below.size (fun r e => Nat.le_trans hw (hr r e).1)⟩
theorem ChJ.low {w : World} {bP D N : Nat} {key pat : Bs} {pre : List Bs} {W W' : World} (h : ChJ w bP D N key pat pre W) (hb : Below W.heap.size W W') : ChJ w bP D N key pat pre W' := by
  obtain ⟨v, h1, h2, _⟩ := h.row
  exact ⟨⟨v, boxLow h1 hb, row_keep h2 (fun g hg => hb.block g (row_ids h2 g hg).2), trivial⟩, boxLow h.p hb, boxLow h.q hb, Nat.le_trans h.size hb.size, h.below.trans (hb.mono h.below.size)⟩
/-- The worlds of a round. -/
def ChC (w : World) (bP D N : Nat) (key pat : Bs) (pre : List Bs) (W w' : World) : Prop := ChJ w bP D N key pat pre w' ∧ Below W.heap.size W w'
theorem ch_call {w : World} {bP D N : Nat} {key pat : Bs} {pre : List Bs} {W : World} {r : Nat} {P : Program} {f : FuncId} {args : Array Value} {x : HeldP (ChC w bP D N key pat pre W)} {v : Value} (h : Calls P f args x.val fun e w' => e = .returned v ∧ Below x.val.heap.size x.val w') : CallsIn Fence.wide r P f args x.val fun e w'' => e = .returned v ∧ ∃ y : HeldP (ChC w bP D N key pat pre W), w'' = y.val :=
  heldP_call ((callsIn_wide.2 h).mono fun e w' ⟨he, hb⟩ => ⟨he, x.is.1.low hb, x.is.2.trans (hb.mono x.is.2.size)⟩)
theorem chF_all {key pat : Bs} {ks : List Bs} (hk : ∀ k ∈ ks, k.length ≤ 100000) : chF key pat (belowL key (headB key) ks) = ks.filter (chP (qB pat) key) := by
  have e : (belowL key (headB key) ks).map cutS = belowL key (headB key) ks := by
    conv => rhs; rw [← List.map_id (belowL key (headB key) ks)]
    exact List.map_congr_left fun p hp => cutS_id (hk p (List.mem_filter.1 hp).1)
  unfold chF
  rw [e]
  unfold belowL
  rw [List.filter_filter]
  refine List.filter_congr fun p _ => ?_
  unfold chP chC
  rw [Bool.and_comm]
theorem keeps_below {W W' : World} (h : Below W.heap.size W W') : KeepsOthers W W' := ⟨h.size, fun k o hk _ => (h.block k (Array.getElem?_eq_some_iff.1 hk).1).trans hk⟩
theorem tail_len (s : Bs) : (tailN s).length ≤ s.length := by
  unfold tailN
  cases hc : cutN s with
  | none => exact Nat.le_refl _
  | some p => obtain ⟨f, t⟩ := p; simp
section
attribute [local go_sem] Oper.semAt_some wide_fn
set_option maxRecDepth 100000 in
set_option maxHeartbeats 3200000 in
theorem Children_any {w : World} {B tb m : Nat} {who : Own} {nd : Bs → Option Nat} {S : Bs → Option ND} (h : Tr w B tb m who nd S) (hcn : Cnt S 1000000) {ks : List Bs} (hks : KeysOf S ks) (hlen : ∀ k ∈ ks, k.length ≤ 100000) (s pat : Bs) (hs : s.length ≤ 20000) (hp : pat.length ≤ 100000) (hk : (S (canonN rootN s)).isSome = true) :
    Calls Tryz.prog 43 #[.pointer (some ⟨tb, 0, none⟩), .string ⟨s.toArray⟩, .string ⟨pat.toArray⟩] w fun e w' => ∃ vo, e = .returned (.tuple #[vo, .int .i64 0]) ∧ TxtRow w' vo (ks.filter (chP (qB pat) (canonN rootN s))) ∧ Below w.heap.size w w' := by
  obtain ⟨nn, hnn⟩ := Option.isSome_iff_exists.1 hk
  obtain ⟨b, hb, _⟩ := h.of_some hnn
  have A1 : Hid (∀ W, Below w.heap.size w W → Calls Tryz.prog 32 #[.pointer (some ⟨tb, 0, none⟩), .string ⟨s.toArray⟩] W fun e w' => e = .returned (.pointer (some ⟨b, 0, none⟩)) ∧ Below W.heap.size W w') := fun W hB => by
    have := at_any (h.low hB).tree s (by omega)
    rw [hb] at this
    exact this
  have CN : Hid (∀ W, Calls Tryz.prog 19 #[.string ⟨#[58, 58]⟩, .string ⟨s.toArray⟩] W fun e w' => e = .returned (.string ⟨(canonN rootN s).toArray⟩) ∧ Below W.heap.size W w') := fun W => Canonical_any rootN s (by decide) (by omega) W
  have hkl : (canonN rootN s).length ≤ 100000 := by have := canon_len3 s; omega
  generalize canonN rootN s = key at *
  have BE : Hid (∀ W, Calls Tryz.prog 37 #[.pointer (some ⟨tb, 0, none⟩), .string ⟨key.toArray⟩] W fun e w' => ∃ b1 b2 b3, e = .returned (.func (.func 68) #[] #[.pointer (some ⟨b1, 0, none⟩), .pointer (some ⟨b2, 0, none⟩), .pointer (some ⟨b3, 0, none⟩)]) ∧ Boxed w' b1 25 (.pointer (some ⟨tb, 0, none⟩)) ∧ Boxed w' b2 9 (.string ⟨key.toArray⟩) ∧ Boxed w' b3 9 (.string ⟨(headB key).toArray⟩) ∧ Below W.heap.size W w') := fun W => bel_any tb key (by omega) W
  have H := Lib.hid (And.intro h (And.intro hcn (And.intro hks hlen)))
  clear h hcn hks hlen hk hnn hb
  have bP := Boxed.new w 9 (.string ⟨s.toArray⟩)
  have bQ := Boxed.new (w.alloc (.cells #[.string ⟨s.toArray⟩] 9)) 9 (.string ⟨pat.toArray⟩)
  have bP2 := bP.alloc (.cells #[.string ⟨pat.toArray⟩] 9)
  have hB0 : Below w.heap.size w ((w.alloc (.cells #[.string ⟨s.toArray⟩] 9)).alloc (.cells #[.string ⟨pat.toArray⟩] 9)) := ((Below.refl _ w).alloc (Nat.le_refl _) _).alloc (by simp) _
  rw [show (w.alloc (.cells #[.string ⟨s.toArray⟩] 9)).heap.size = w.heap.size + 1 by simp] at bQ
  have c0 := bP2.cell
  have H0 := Lib.hid (And.intro hB0 (And.intro bP2 bQ))
  obtain ⟨w0, hw0⟩ : ∃ w0, ((w.alloc (.cells #[.string ⟨s.toArray⟩] 9)).alloc (.cells #[.string ⟨pat.toArray⟩] 9)) = w0 := ⟨_, rfl⟩
  rw [hw0] at H0 c0
  clear bP bQ bP2 hB0
  refine callsIn_wide (n := 3) |>.1 ?_
  refine callsIn_of_wp_marks Tryz.func43 rfl trivial ?_ rfl
  simp only [Tryz.ntmps43, List.size_toArray, List.length_cons, List.length_nil, Nat.reduceAdd, Nat.reduceSub, Array.replicate_succ, Array.replicate_zero, List.push_toArray, List.append_toArray, List.nil_append, List.cons_append]
  gi_wp2_with (first
    | (gi_at_call 32; refine (callsIn_wide.2 (A1.out _ (by exact H0.out.1))).mono ?_; rintro e w1 ⟨rfl, hB⟩; have hx1 := boxLow H0.out.2.1 hB; have hy1 := boxLow H0.out.2.2 hB; have c1 := hx1.cell; have H1 := Lib.hid (And.intro (H0.out.1.trans (hB.mono H0.out.1.size)) (And.intro hx1 hy1)); clear hB hx1 hy1)
    | (gi_at_call 19; refine (callsIn_wide.2 (CN.out _)).mono ?_; rintro e w2 ⟨rfl, hB⟩; have hx2 := boxLow H1.out.2.1 hB; have hy2 := boxLow H1.out.2.2 hB; have c2 := hx2.cell; have f2 := hx2.frozen; obtain ⟨h3, h4, h5, h6⟩ := put_box (v := .string ⟨key.toArray⟩) (H1.out.1.trans (hB.mono H1.out.1.size)) (Nat.le_refl _) hx2 hy2; have c4 := h3.cell; have HC2 := Lib.hid (And.intro (H1.out.1.trans (hB.mono H1.out.1.size)).size hy2.lt); have H2 := Lib.hid (And.intro h3 (And.intro h4 (And.intro h5 h6))); clear hB hx2 hy2 h3 h4 h5 h6)
    | (gi_at_call 37; refine (callsIn_wide.2 (BE.out _)).mono ?_; rintro e w5 ⟨b1, b2, b3, rfl, h1, h2, h3, hB⟩; have H5 := Lib.hid (And.intro h1 (And.intro h2 (And.intro h3 hB))); clear h1 h2 h3 hB))
  obtain ⟨bP, hbP⟩ : ∃ x, w.heap.size = x := ⟨_, rfl⟩
  obtain ⟨D, hD⟩ : ∃ x, w2.heap.size = x := ⟨_, rfl⟩
  have hKP := boxLow H2.out.1 H5.out.2.2.2
  have hKQ := boxLow H2.out.2.1 H5.out.2.2.2
  have hKD := boxLow H2.out.2.2.1 H5.out.2.2.2
  have hPQ : bP + 1 < w5.heap.size := by have := H2.out.2.2.2.size; have := hKQ.lt; omega
  have hDw : w.heap.size ≤ D ∧ bP + 1 < D := by rw [← hD, ← hbP]; exact ⟨by have := H1.out.1.size; have := HC2.out.1; omega, HC2.out.2⟩
  have hBW : Below w.heap.size w w5 := H2.out.2.2.2.trans (H5.out.2.2.2.mono H2.out.2.2.2.size)
  obtain ⟨g1, g2, g3, _⟩ := H5.out
  have hks := H.out.2.2.1
  have hkn : ks.length ≤ 1000000 := H.out.2.1 ks hks.nodup (fun k hk => (hks.mem k).1 hk)
  rw [hD] at hKD ⊢
  rw [hbP] at hKP hKQ ⊢
  have hlD := hKD.lt
  have n1 : b1 ≠ D := ne_of_type g1 hKD (by decide)
  have n2 : b2 ≠ D := ne_of_type g2 hKD (by decide)
  have n3 : b3 ≠ D := ne_of_type g3 hKD (by decide)
  have nP : bP ≠ D := ne_of_type hKP hKD (by decide)
  have nQ : bP + 1 ≠ D := ne_of_type hKQ hKD (by decide)
  have hJ0 : ChJ w bP D w5.heap.size key pat [] w5 := ⟨⟨_, hKD, ⟨rfl, .inl ⟨rfl, rfl⟩⟩, trivial⟩, hKP, hKQ, Nat.le_refl _, hBW⟩
  have hst := below_stopsC b1 b2 b3 D key (headB key) H.out.1 H.out.2.1 ks hks H.out.2.2.2 w5 hBW g1 g2 g3 hlD ⟨n1, n2, n3⟩ (ownAt_boxed hKD)
  have HG := Lib.hid (And.intro hbP (And.intro n1 (And.intro nP nQ)))
  clear H2 H5 hKP hKQ hKD g1 g2 g3 hks n1 n2 n3 hD nP nQ
  rw [hbP] at hBW
  refine wpIn_rangeFunc_ownG rfl (by omega) (gf := 68) (lb := #[.pointer (some ⟨b1, 0, none⟩), .pointer (some ⟨b2, 0, none⟩), .pointer (some ⟨b3, 0, none⟩)]) rfl trivial (enters_of Tryz.func68 (by kernel_rfl) rfl)
    hst KD.trans (fun W l o o' hl h hc hw => kd_put (w := w5) (c0 := #[]) (t0 := 0) (f0 := (0, 0)) W l o o' (by omega) h hc hw (by omega)) (Below.refl _ _) (fun _ => rfl)
    (ChJ w bP D w5.heap.size key pat) (fun _ _ _ => False) (chj_own (by omega) (by have := hBW.size; omega) (Nat.le_refl _)) (fun _ _ _ _ _ hs _ _ => hs) hJ0
    (fun x => { tmps := #[.pointer (some ⟨tb, 0, none⟩), .string ⟨s.toArray⟩, .string ⟨pat.toArray⟩, undef, .pointer (some ⟨bP, 0, none⟩), .pointer (some ⟨bP + 1, 0, none⟩), .slice none 0 0, .int .i64 0, .pointer (some ⟨D, 0, none⟩), .string ⟨(cutS x).toArray⟩, .pointer (some ⟨tb, 0, none⟩), .string ⟨s.toArray⟩, .pointer (some ⟨b, 0, none⟩), .bool false, .string ⟨s.toArray⟩, .string ⟨key.toArray⟩, .pointer (some ⟨tb, 0, none⟩), .string ⟨key.toArray⟩, .func (.func 68) #[] #[.pointer (some ⟨b1, 0, none⟩), .pointer (some ⟨b2, 0, none⟩), .pointer (some ⟨b3, 0, none⟩)], .string ⟨(cutS x).toArray⟩, undef, undef, undef, undef, undef, undef, undef, undef, undef, undef, undef, undef, undef, undef, undef], defers := [] }) ?assign ?body ?done ?stop
  case assign =>
    intro l x W K hK
    gi_wp2
    exact hK
  case body =>
    rintro l pre x W hJ hlt
    have hyl := cutS_len x
    have hsn := chF_snoc key pat pre x
    have hcl := chF_len key pat pre
    generalize cutS x = y at *
    have HJ := Lib.hid hJ
    have HS := Lib.hid hsn
    have HD : Hid (∀ W', Calls Tryz.prog 13 #[.string ⟨y.toArray⟩] W' fun e w' => e = .returned (.string ⟨(headN y).toArray⟩) ∧ Below W'.heap.size W' w') := fun W' => Head_any y hyl W'
    have TL : Hid (∀ W', Calls Tryz.prog 74 #[.string ⟨y.toArray⟩] W' fun e w' => e = .returned (.string ⟨(tailN y).toArray⟩) ∧ W' = w') := fun W' => Tail_any y hyl W'
    have htl : (tailN y).length ≤ 1000000 := by have := tail_len y; omega
    have GX : Hid (∀ W', Calls Tryz.prog 73 #[.string ⟨pat.toArray⟩, .string ⟨(tailN y).toArray⟩, .bool false] W' fun e w' => e = .returned (.bool (qB pat (tailN y))) ∧ Below W'.heap.size W' w') := fun W' => Glob_any pat (tailN y) false (by omega) htl W'
    clear hJ hJ0 hsn htl
    unfold chC at HS
    generalize headN y = hy at *
    generalize tailN y = ty at *
    have hDW : D < W.heap.size := by obtain ⟨v, hv, _⟩ := HJ.out.row; exact hv.lt
    have HB0 := Lib.hid hBW
    have HDD := Lib.hid hDw
    have hNn : pre.length ≤ 1000000 := by omega
    clear hBW hDw
    by_cases hh : hy = key
    · have b1 : (hy == key) = true := by rw [hh]; exact beq_self_eq_true key
      rw [b1] at HS
      subst hh
      cases hq : qB pat ty with
      | true =>
        rw [hq] at GX HS
        clear hq
        gi_wp2_with fail
        refine wpIn_region_held_round (F := Fence.wide) (ChC w bP D w5.heap.size hy pat pre W) ⟨HJ.out.low (Below.refl _ _).drew, (Below.refl _ _).drew⟩ rfl (by kernel_rfl) (by kernel_rfl) (by kernel_rfl) ?_
        haveI hne : Nonempty (HeldP (ChC w bP D w5.heap.size hy pat pre W)) := ⟨⟨W, HJ.out, Below.refl _ _⟩⟩
        have HK0 : True := trivial
        have cx : ∀ x : HeldP (ChC w bP D w5.heap.size hy pat pre W), x.val.cell? ⟨bP, 0, none⟩ = some (.string ⟨hy.toArray⟩) := fun x => x.is.1.p.cell
        have cq : ∀ x : HeldP (ChC w bP D w5.heap.size hy pat pre W), x.val.cell? ⟨bP + 1, 0, none⟩ = some (.string ⟨pat.toArray⟩) := fun x => x.is.1.q.cell
        repeat (gi_big_quiet_step (first | (gi_at_call 13; exact ch_call (HD.out _)) | (gi_at_call 74; exact ch_call ((TL.out _).mono fun e w' ⟨he, hw⟩ => ⟨he, hw ▸ Below.refl _ _⟩)) | (gi_at_call 73; exact ch_call (GX.out _))))
        refine wpQuietIn_nil ?_
        rintro _ ⟨z, rfl⟩
        obtain ⟨wz, hz, hbz⟩ := z
        dsimp only
        obtain ⟨v, hv, hrow, _⟩ := hz.row
        have hcl2 : (chF hy pat pre).length ≤ 1000000 := by omega
        obtain ⟨cn, hcn⟩ : ∃ cn, (chF hy pat pre).length = cn := ⟨_, rfl⟩
        rw [hcn] at hrow hcl2
        obtain ⟨o, cp, hve⟩ := row_shape hrow
        subst hve
        have cv := hv.cell
        have HZ := Lib.hid (And.intro hz (And.intro hbz (And.intro hv (And.intro hrow hcn))))
        have hsN := hz.size
        clear hz hbz hv hrow cx cq hne hcn hcl HK0
        obtain ⟨i0, hi, hz0, hz1, hz2⟩ := infoStr'
        gi_wp2_with (gi_at_builtin; go_loud (refine wpListIn_append_own_at _ rfl _ _ 27 rfl w5.heap.size 9 i0 (sv []) 1 16 Tryz.underlying27 hi hz0 hz1 hz2 rfl (by decide) (.slice o cn cp) cn ((chF hy pat pre).map sv) rfl (HZ.out.2.2.2.1.alloc _) ⟨wz.heap.size, 0, none⟩ 1 1 [sv y] rfl rfl (row_new wz [sv y] 9) (by simp [Value.oneCell', sv]) (by unfold maxLen; omega) (by omega) (Nat.le_trans hsN (by simp)) ?_); intro v' w1 hown' hgrow _ hloc; obtain ⟨g', cap', rfl⟩ := ownsRow_succ (k := cn) hown'; have HG := Lib.hid (And.intro hown' (And.intro hgrow hloc)); obtain ⟨hv1, hv2, _, hk2, hb2⟩ := HZ.out.2.2.1.appended (by decide) (row_base HZ.out.2.2.2.1 (by omega : D ≤ w5.heap.size)) (by omega) (Nat.le_refl _) (row_base hown' (by omega : D ≤ w5.heap.size)) hgrow; have hc1 := hv1.cell; have hf1 := hv1.frozen; have HV := Lib.hid (And.intro hv1 (And.intro hv2 (And.intro hk2 hb2))); clear hown' hgrow hv1 hv2 hk2 hb2 hloc)
        have hrow1 := HG.out.1
        have hne1 : g' ≠ D := by have := (row_ids hrow1 g' rfl).1; omega
        have hbb := HV.out.2.2.2
        refine ⟨((keeps_below HZ.out.2.1).trans HV.out.2.2.1).from _, (KD.of_below HZ.out.2.1 hDW).trans ⟨hbb.size, fun j c t f hj hjD ho => ?_, ?_⟩, ⟨⟨_, HV.out.2.1, ?_, trivial⟩, ?_, ?_, ?_, HZ.out.1.below.trans (hbb.mono HDD.out.1)⟩⟩
        · have hl := (Array.getElem?_eq_some_iff.1 hj).1
          rw [ownAt_boxed HZ.out.2.2.1] at ho
          exact (Below.heap_setCell _ ⟨D, 0, none⟩ _ j hjD).trans ((HG.out.2.1.block j (by simp; omega) (fun e => ho e.symm)).trans (Below.heap_alloc _ _ _ hl))
        · rw [ownAt_boxed HZ.out.2.2.1, ownAt_boxed HV.out.2.1]
          rcases HG.out.2.2 with e | e
          · exact .inl e
          · refine .inr ⟨g', rfl, ?_⟩
            have : g' = (wz.alloc (.cells #[sv y] 9)).heap.size := by simpa [Value.ownBlock] using e
            rw [this]; simp
        · rw [HS.out]
          simp only [Bool.and_true, if_true, List.length_append, List.map_append, HZ.out.2.2.2.2]
          refine row_keep hrow1 (fun j hj => Below.heap_setCell _ ⟨D, 0, none⟩ _ j ?_)
          have : g' = j := by simpa [Value.ownBlock] using hj
          subst this; exact hne1
        · exact (hbb.block bP (by have := HDD.out.2; omega)).trans HZ.out.1.p
        · exact (hbb.block (bP + 1) HDD.out.2).trans HZ.out.1.q
        · have := hbb.size; omega
      | false =>
        rw [hq] at GX HS
        clear hq
        gi_wp2_with fail
        refine wpIn_region_held_round (F := Fence.wide) (ChC w bP D w5.heap.size hy pat pre W) ⟨HJ.out.low (Below.refl _ _).drew, (Below.refl _ _).drew⟩ rfl (by kernel_rfl) (by kernel_rfl) (by kernel_rfl) ?_
        haveI hne : Nonempty (HeldP (ChC w bP D w5.heap.size hy pat pre W)) := ⟨⟨W, HJ.out, Below.refl _ _⟩⟩
        have HK0 : True := trivial
        have cx : ∀ x : HeldP (ChC w bP D w5.heap.size hy pat pre W), x.val.cell? ⟨bP, 0, none⟩ = some (.string ⟨hy.toArray⟩) := fun x => x.is.1.p.cell
        have cq : ∀ x : HeldP (ChC w bP D w5.heap.size hy pat pre W), x.val.cell? ⟨bP + 1, 0, none⟩ = some (.string ⟨pat.toArray⟩) := fun x => x.is.1.q.cell
        repeat (gi_big_quiet_step (first | (gi_at_call 13; exact ch_call (HD.out _)) | (gi_at_call 74; exact ch_call ((TL.out _).mono fun e w' ⟨he, hw⟩ => ⟨he, hw ▸ Below.refl _ _⟩)) | (gi_at_call 73; exact ch_call (GX.out _))))
        refine wpQuietIn_nil ?_
        rintro _ ⟨z, rfl⟩
        obtain ⟨wz, hz, hbz⟩ := z
        dsimp only
        have HZ := Lib.hid (And.intro hz hbz)
        clear hz hbz cx cq hne hcl HK0
        gi_wp2_with fail
        obtain ⟨v, hv, hrow, _⟩ := HZ.out.1.row
        exact ⟨(keeps_below HZ.out.2).from _, KD.of_below HZ.out.2 hDW, ⟨⟨v, hv, by rw [HS.out]; simpa using hrow, trivial⟩, HZ.out.1.p, HZ.out.1.q, HZ.out.1.size, HZ.out.1.below⟩⟩
    · have b1 : (hy == key) = false := beq_eq_false_iff_ne.2 hh
      rw [b1] at HS
      gi_wp2_with fail
      refine wpIn_region_held_round (F := Fence.wide) (ChC w bP D w5.heap.size key pat pre W) ⟨HJ.out.low (Below.refl _ _).drew, (Below.refl _ _).drew⟩ rfl (by kernel_rfl) (by kernel_rfl) (by kernel_rfl) ?_
      haveI hne : Nonempty (HeldP (ChC w bP D w5.heap.size key pat pre W)) := ⟨⟨W, HJ.out, Below.refl _ _⟩⟩
      have HK0 : True := trivial
      have cx : ∀ x : HeldP (ChC w bP D w5.heap.size key pat pre W), x.val.cell? ⟨bP, 0, none⟩ = some (.string ⟨key.toArray⟩) := fun x => x.is.1.p.cell
      have cq : ∀ x : HeldP (ChC w bP D w5.heap.size key pat pre W), x.val.cell? ⟨bP + 1, 0, none⟩ = some (.string ⟨pat.toArray⟩) := fun x => x.is.1.q.cell
      repeat (gi_big_quiet_step (first | (gi_at_call 13; exact ch_call (HD.out _)) | (gi_at_call 74; exact ch_call ((TL.out _).mono fun e w' ⟨he, hw⟩ => ⟨he, hw ▸ Below.refl _ _⟩)) | (gi_at_call 73; exact ch_call (GX.out _))))
      refine wpQuietIn_nil ?_
      rintro _ ⟨z, rfl⟩
      obtain ⟨wz, hz, hbz⟩ := z
      dsimp only
      have HZ := Lib.hid (And.intro hz hbz)
      clear hz hbz cx cq hne hcl HK0
      gi_wp2_with fail
      obtain ⟨v, hv, hrow, _⟩ := HZ.out.1.row
      exact ⟨(keeps_below HZ.out.2).from _, KD.of_below HZ.out.2 hDW, ⟨⟨v, hv, by rw [HS.out]; simpa using hrow, trivial⟩, HZ.out.1.p, HZ.out.1.q, HZ.out.1.size, HZ.out.1.below⟩⟩
  case done =>
    rintro D' ys W hD' rfl hJ hK
    obtain ⟨v, hv, hrow, _⟩ := hJ.row
    have hc := hv.cell
    rw [chF_all H.out.2.2.2] at hrow
    obtain ⟨o, cp, hve⟩ := row_shape hrow
    subst hve
    have HJ := Lib.hid hJ
    have hsz := hJ.size
    clear hJ hJ0
    gi_wp2
    refine ⟨by simp, .inl ⟨_, _, rfl, run_takeDeferred hK, ?_⟩⟩
    refine ⟨_, results_tmp2 rfl _ _ _, _, rfl, TxtRow.of_owns (base := w5.heap.size) (ownsRow_putObj hrow _ hK rfl), HJ.out.below.trans (belowK_b (w := w) (Nat.le_refl _) W D' _ _ (by omega) hK rfl rfl)⟩
  case stop =>
    rintro D' c pre W _ _ h _
    exact h.elim
end
end Go.Proofs.YtjgdfgpnmmkjfaaGreatDoor

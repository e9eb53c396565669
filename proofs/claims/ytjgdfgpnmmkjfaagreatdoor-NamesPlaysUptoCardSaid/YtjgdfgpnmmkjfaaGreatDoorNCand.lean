/- 'Candidates' of a tree of namespaces. -/
import Derived.Test.YtjgdfgpnmmkjfaaGreatDoorNCat
import Derived.Deep.RegionWith
namespace Go.Proofs.YtjgdfgpnmmkjfaaGreatDoor
set_option linter.unusedVariables false
set_option linter.unusedSimpArgs false
open Go.RowKit Go.MapKept

def candStep (S : Bs → Option ND) (name : Bs) (out : List Bs) (p : Bs) : List Bs := if (S (canonN rootN p)).isSome && !hasB out (canonN p name) then out ++ [canonN p name] else out
def candL (S : Bs → Option ND) (name : Bs) (ps : List Bs) : List Bs := ps.foldl (candStep S name) []
def candS (S : Bs → Option ND) (space name : Bs) : Int × List Bs :=
  match S (canonN rootN space) with
  | none => (8, [])
  | some n => if absN name = true then (0, [canonN rootN name]) else (0, candL S name ([canonN rootN space] ++ n.search ++ [rootN]))
theorem candL_snoc (S : Bs → Option ND) (name : Bs) (ps : List Bs) (k : Nat) (hk : k < ps.length) : candL S name (ps.take (k + 1)) = candStep S name (candL S name (ps.take k)) ps[k] := by
  unfold candL
  rw [List.take_succ_eq_append_getElem hk, List.foldl_append]; rfl
theorem cand_len (S : Bs → Option ND) (name : Bs) : ∀ (ps : List Bs) (o : List Bs), (ps.foldl (candStep S name) o).length ≤ o.length + ps.length
  | [], o => by simp
  | p :: r, o => by
    rw [List.foldl_cons]
    have h := cand_len S name r (candStep S name o p)
    have h2 : (candStep S name o p).length ≤ o.length + 1 := by unfold candStep; split <;> simp
    rw [List.length_cons]; omega
theorem canon_len3 (path : Bs) : (canonN rootN path).length ≤ 3 * path.length + 4 := by
  rw [canon_root]
  have h1 := can_len (partsN path)
  have h2 := parts_w path
  omega
/-- A row of one text in a block. -/
theorem txt_one {w : World} {g : Nat} {p : Bs} {t : TypeId} (h : w.heap[g]? = some (.cells #[.string ⟨p.toArray⟩] t (0, 0))) : TxtRow w (.slice (some ⟨g, 0, none⟩) 1 1) [p] := by
  refine ⟨_, _, rfl, Nat.le_refl _, by unfold maxLen; decide, fun i hi => ⟨g, 0, rfl, (Array.getElem?_eq_some_iff.1 h).1, ?_⟩⟩
  have : i = 0 := by simpa using hi
  subst this
  simp only [World.cell?, h]; rfl
theorem concat3 (w : World) (g : Nat) (va vb vc : Value) (A B C : List Bs) (t : TypeId) (hg : w.heap[g]? = some (.cells #[va, vb, vc] t (0, 0))) (ha : TxtRow w va A) (hb : TxtRow w vb B) (hc : TxtRow w vc C) (h0 : 0 < A.length) (hs : (A ++ B ++ C).length ≤ 1000000) :
    Calls Tryz.prog 38 #[.slice (some ⟨g, 0, none⟩) 3 3] w fun e w' => ∃ o c, e = .returned (.slice o (A ++ B ++ C).length c) ∧ w'.ownsRow w.heap.size 9 1 (.slice o (A ++ B ++ C).length c) (A ++ B ++ C).length ((A ++ B ++ C).map sv) ∧ Below w.heap.size w w' := by
  have e : [A, B, C].flatten = A ++ B ++ C := by simp
  have := concat_any w g [va, vb, vc] [A, B, C] 3 rfl rfl (by decide) (Array.getElem?_eq_some_iff.1 hg).1 (fun i hi => ?_) (fun i hi hi' => ?_) (by rw [e]; simp; omega) (by rw [e]; exact hs)
  · rw [e] at this; exact this
  · match i, hi with
    | 0, _ => simp only [World.cell?, hg]; rfl
    | 1, _ => simp only [World.cell?, hg]; rfl
    | 2, _ => simp only [World.cell?, hg]; rfl
  · match i, hi with
    | 0, _ => exact ha
    | 1, _ => exact hb
    | 2, _ => exact hc
theorem at_new (w : World) (o : Obj) (g : Nat) (hg : g = w.heap.size) : (w.alloc o).heap[g]? = some o := by subst hg; exact heap_alloc_new w o
theorem at_old {w : World} {g : Nat} {x : Obj} (o : Obj) (h : w.heap[g]? = some x) : (w.alloc o).heap[g]? = some x := (Below.heap_alloc w o g (Array.getElem?_eq_some_iff.1 h).1).trans h
theorem below_al {w W : World} (h : Below w.heap.size w W) (o : Obj) : Below w.heap.size w (W.alloc o) := h.alloc h.size o
theorem TxtRow.al {w : World} {v : Value} {ss : List Bs} (h : TxtRow w v ss) (o : Obj) : TxtRow (w.alloc o) v ss := h.below ((Below.refl _ w).alloc (Nat.le_refl _) o)
def CandR (w : World) (r : Int × List Bs) (e : Ending) (w' : World) : Prop := ∃ o c, e = .returned (.tuple #[.slice o r.2.length c, .int .i64 r.1]) ∧ w'.ownsRow w.heap.size 9 1 (.slice o r.2.length c) r.2.length (r.2.map sv) ∧ Below w.heap.size w w'
set_option maxRecDepth 100000 in
set_option maxHeartbeats 1600000 in
theorem Candidates_any {w : World} {B tb m : Nat} {who : Own} {nd : Bs → Option Nat} {S : Bs → Option ND} (h : Tr w B tb m who nd S) (space name : Bs) (h1 : space.length ≤ 20000) (h2 : name.length ≤ 20000) (hL : ∀ n, S (canonN rootN space) = some n → n.search.length ≤ 100000 ∧ ∀ p ∈ n.search, p.length ≤ 100000) :
    Calls Tryz.prog 17 #[.pointer (some ⟨tb, 0, none⟩), .string ⟨space.toArray⟩, .string ⟨name.toArray⟩] w (CandR w (candS S space name)) := by
  have AT : Hid (∀ W, Below w.heap.size w W → ∀ p : Bs, p.length ≤ 100000 → Calls Tryz.prog 32 #[.pointer (some ⟨tb, 0, none⟩), .string ⟨p.toArray⟩] W fun e w' => e = .returned (ptrN (nd (canonN rootN p))) ∧ Below W.heap.size W w') := fun W hb p hp => at_any (h.low hb).tree p hp
  have A0 := AT.out w (Below.refl _ _) space (by omega)
  have CA : Hid (∀ W, ∀ p q : Bs, p.length ≤ 100000 → q.length ≤ 100000 → Calls Tryz.prog 19 #[.string ⟨p.toArray⟩, .string ⟨q.toArray⟩] W fun e w' => e = .returned (.string ⟨(canonN p q).toArray⟩) ∧ Below W.heap.size W w') := fun W p q hp hq => Canonical_any p q hp hq W
  have AB : Hid (∀ W, Calls Tryz.prog 18 #[.string ⟨name.toArray⟩] W fun e w' => e = .returned (.bool (absN name)) ∧ W = w') := fun W => Absolute_any name W
  unfold candS
  cases hnd : nd (canonN rootN space) with
  | none =>
    rw [h.none_of hnd]
    rw [hnd] at A0
    have A1 : Hid (Calls Tryz.prog 32 #[.pointer (some ⟨tb, 0, none⟩), .string ⟨space.toArray⟩] w fun e w' => e = .returned (.pointer none) ∧ Below w.heap.size w w') := A0
    clear h AT A0 hnd hL h1 h2 CA AB
    go_enter Tryz.func17, Tryz.ntmps17
    go_wp2_with (go_at_call 32; refine A1.out.mono ?_; rintro e w2 ⟨rfl, hB⟩; have HB := Lib.hid hB; clear hB)
    go_ret2
    exact ⟨none, 0, rfl, ⟨rfl, .inl ⟨rfl, rfl⟩⟩, HB.out⟩
  | some b =>
    obtain ⟨nn, hS, hN⟩ := h.has hnd
    obtain ⟨hL1, hL2⟩ := hL nn hS
    rw [hS]
    rw [hnd] at A0
    have A1 : Hid (Calls Tryz.prog 32 #[.pointer (some ⟨tb, 0, none⟩), .string ⟨space.toArray⟩] w fun e w' => e = .returned (.pointer (some ⟨b, 0, none⟩)) ∧ Below w.heap.size w w') := A0
    cases hab : absN name with
    | true =>
      rw [hab] at AB
      have CN : Hid (∀ W, Calls Tryz.prog 19 #[.string ⟨#[58, 58]⟩, .string ⟨name.toArray⟩] W fun e w' => e = .returned (.string ⟨(canonN rootN name).toArray⟩) ∧ Below W.heap.size W w') := fun W => CA.out W rootN name (by decide) (by omega)
      show Calls _ _ _ _ (CandR w (0, [canonN rootN name]))
      generalize canonN rootN name = q at *
      clear h AT A0 hnd hL h1 h2 hS hN hL1 hL2 CA hab
      go_enter Tryz.func17, Tryz.ntmps17
      go_wp2_with (first | (go_at_call 32; refine A1.out.mono ?_; rintro e w2 ⟨rfl, hB⟩; have HB := Lib.hid hB; clear hB) | (go_at_call 18; refine (AB.out _).mono ?_; rintro e w3 ⟨rfl, rfl⟩) | (go_at_call 19; refine (CN.out _).mono ?_; rintro e w4 ⟨rfl, hB⟩; have HB4 := Lib.hid (HB.out.trans (hB.mono HB.out.size)); clear hB))
      go_ret2
      refine ⟨some ⟨w4.heap.size, 0, none⟩, 1, rfl, ⟨rfl, .inr ⟨w4.heap.size, 1, _, rfl, HB4.out.size, heap_alloc_new _ _, Nat.le_refl _, by unfold maxLen; decide, rfl, rfl⟩⟩, HB4.out.alloc HB4.out.size _⟩
    | false =>
      rw [hab] at AB
      show Calls _ _ _ _ (CandR w (0, candL S name ([canonN rootN space] ++ nn.search ++ [rootN])))
      obtain ⟨_, vs, ve, hcn, hrow, hrid, _⟩ := hN
      obtain ⟨so, sc, rfl⟩ := owns_slice hrow
      have hkl := canon_len3 space
      have CS : Hid (∀ W, Calls Tryz.prog 19 #[.string ⟨#[58, 58]⟩, .string ⟨space.toArray⟩] W fun e w' => e = .returned (.string ⟨(canonN rootN space).toArray⟩) ∧ Below W.heap.size W w') := fun W => CA.out W rootN space (by decide) (by omega)
      have HPS : Hid (∀ p ∈ [canonN rootN space] ++ nn.search ++ [rootN], p.length ≤ 100000) := fun p hp => by
        simp only [List.mem_append, List.mem_singleton] at hp
        rcases hp with (rfl | hp) | rfl
        · omega
        · exact hL2 p hp
        · decide
      have hpl : ([canonN rootN space] ++ nn.search ++ [rootN]).length ≤ 1000000 := by simp; omega
      generalize canonN rootN space = key at *
      have HROW : Hid (TxtRow w (.slice so nn.search.length sc) nn.search) := TxtRow.of_owns hrow
      have HCN : Hid (∀ W, Below w.heap.size w W → W.cell? ⟨b, 0, none⟩ = some (.slice so nn.search.length sc)) := fun W hb => (vcells3 ((hb.block b (Array.getElem?_eq_some_iff.1 hcn).1).trans hcn)).1
      have HCC : Hid (∀ W g va vc t, W.heap[g]? = some (.cells #[va, .slice so nn.search.length sc, vc] t (0, 0)) → TxtRow W va [key] → Below w.heap.size w W → TxtRow W vc [rootN] → Calls Tryz.prog 38 #[.slice (some ⟨g, 0, none⟩) 3 3] W fun e w' => ∃ o c, e = .returned (.slice o ([key] ++ nn.search ++ [rootN]).length c) ∧ TxtRow w' (.slice o ([key] ++ nn.search ++ [rootN]).length c) ([key] ++ nn.search ++ [rootN]) ∧ Below w.heap.size w w') := fun W g va vc t hg ha hb hc => (concat3 W g va _ vc [key] nn.search [rootN] t hg ha (HROW.out.below hb) hc (by simp) hpl).mono fun e w' ⟨o, c, he, ho, hb2⟩ => ⟨o, c, he, TxtRow.of_owns ho, hb.trans (hb2.mono hb.size)⟩
      generalize [key] ++ nn.search ++ [rootN] = ps at *
      obtain ⟨n, hn⟩ : ∃ n, ps.length = n := ⟨_, rfl⟩
      have HN := Lib.hid hn
      rw [hn] at hpl HCC
      generalize nn.search.length = sn at *
      have H := Lib.hid h
      clear h A0 hnd hL h1 hS hL1 hL2 hab hrow hrid hcn hn hkl
      go_enter Tryz.func17, Tryz.ntmps17
      go_wp2_with (first | (go_at_call 32; refine A1.out.mono ?_; rintro e w2 ⟨rfl, hB⟩; have HB := Lib.hid hB; clear hB) | (go_at_call 18; refine (AB.out _).mono ?_; rintro e w3 ⟨rfl, rfl⟩))
      have hc2 := HCN.out w2 HB.out
      have hc2a : ∀ o, (w2.drew.alloc o).cell? ⟨b, 0, none⟩ = some (.slice so sn sc) := fun o => HCN.out _ (HB.out.drew.alloc HB.out.size o)
      have hc2b : ∀ o, (w2.alloc o).cell? ⟨b, 0, none⟩ = some (.slice so sn sc) := fun o => HCN.out _ (HB.out.alloc HB.out.size o)
      obtain ⟨Q, hQ1, hQ2⟩ : ∃ Q : Act → World → Prop, (∀ x25 x30 x31 po pc w', Hid (TxtRow w' (.slice po n pc) ps ∧ Below w.heap.size w w') → Q ⟨#[.pointer (some ⟨tb, 0, none⟩), .string ⟨space.toArray⟩, .string ⟨name.toArray⟩, undef, undef, undef, .slice none 0 0, .int .i64 0, .pointer (some ⟨b, 0, none⟩), .slice none 0 0, undef, undef, undef, .pointer (some ⟨tb, 0, none⟩), .string ⟨space.toArray⟩, .pointer (some ⟨b, 0, none⟩), .pointer (some ⟨b, 0, none⟩), .bool false, .string ⟨name.toArray⟩, .bool false, undef, undef, undef, .string ⟨space.toArray⟩, .string ⟨key.toArray⟩, x25, .pointer (some ⟨b, 0, none⟩), .pointer (some ⟨b, 0, none⟩), .pointer (some ⟨b, 0, none⟩), .slice so sn sc, x30, x31, .slice po n pc, .int .i64 (n : Int), .int .i64 0, undef, undef, undef, undef, undef, undef, undef, undef, undef, undef, undef, undef, undef, undef, undef, undef, undef, undef, undef, undef, undef, undef], []⟩ w') ∧ ∀ a' w', Q a' w' → ∃ x25 x30 x31 po pc, a' = ⟨#[.pointer (some ⟨tb, 0, none⟩), .string ⟨space.toArray⟩, .string ⟨name.toArray⟩, undef, undef, undef, .slice none 0 0, .int .i64 0, .pointer (some ⟨b, 0, none⟩), .slice none 0 0, undef, undef, undef, .pointer (some ⟨tb, 0, none⟩), .string ⟨space.toArray⟩, .pointer (some ⟨b, 0, none⟩), .pointer (some ⟨b, 0, none⟩), .bool false, .string ⟨name.toArray⟩, .bool false, undef, undef, undef, .string ⟨space.toArray⟩, .string ⟨key.toArray⟩, x25, .pointer (some ⟨b, 0, none⟩), .pointer (some ⟨b, 0, none⟩), .pointer (some ⟨b, 0, none⟩), .slice so sn sc, x30, x31, .slice po n pc, .int .i64 (n : Int), .int .i64 0, undef, undef, undef, undef, undef, undef, undef, undef, undef, undef, undef, undef, undef, undef, undef, undef, undef, undef, undef, undef, undef, undef], []⟩ ∧ Hid (TxtRow w' (.slice po n pc) ps ∧ Below w.heap.size w w') :=
        ⟨fun a' w' => ∃ x25 x30 x31 po pc, a' = ⟨#[.pointer (some ⟨tb, 0, none⟩), .string ⟨space.toArray⟩, .string ⟨name.toArray⟩, undef, undef, undef, .slice none 0 0, .int .i64 0, .pointer (some ⟨b, 0, none⟩), .slice none 0 0, undef, undef, undef, .pointer (some ⟨tb, 0, none⟩), .string ⟨space.toArray⟩, .pointer (some ⟨b, 0, none⟩), .pointer (some ⟨b, 0, none⟩), .bool false, .string ⟨name.toArray⟩, .bool false, undef, undef, undef, .string ⟨space.toArray⟩, .string ⟨key.toArray⟩, x25, .pointer (some ⟨b, 0, none⟩), .pointer (some ⟨b, 0, none⟩), .pointer (some ⟨b, 0, none⟩), .slice so sn sc, x30, x31, .slice po n pc, .int .i64 (n : Int), .int .i64 0, undef, undef, undef, undef, undef, undef, undef, undef, undef, undef, undef, undef, undef, undef, undef, undef, undef, undef, undef, undef, undef, undef], []⟩ ∧ Hid (TxtRow w' (.slice po n pc) ps ∧ Below w.heap.size w w'), fun x25 x30 x31 po pc w' h => ⟨x25, x30, x31, po, pc, rfl, h⟩, fun _ _ h => h⟩
      have HQ1 := Lib.hid hQ1
      have HQ2 := Lib.hid hQ2
      clear hQ1 hQ2
      refine wp_mono (Q := Exit.then Q (fun _ _ _ => False)) ?_ (fun e a' w4 h => ?_)
      · go_region_with (first | (go_at_call 19; refine (CS.out _).mono ?_; rintro e w3 ⟨rfl, hB3⟩; have hb3 : Below w.heap.size w w3 := (by first | exact HB.out.drew.trans (hB3.mono HB.out.size) | exact (HB.out.drew.alloc HB.out.size _).trans (hB3.mono (HB.out.drew.alloc HB.out.size _).size)); have hc3 := HCN.out w3 hb3; have hc3a : ∀ o, (w3.alloc o).cell? ⟨b, 0, none⟩ = some (.slice so sn sc) := fun o => HCN.out _ (hb3.alloc hb3.size o); have hc3b : ∀ o o', ((w3.alloc o).alloc o').cell? ⟨b, 0, none⟩ = some (.slice so sn sc) := fun o o' => HCN.out _ ((hb3.alloc hb3.size o).alloc (hb3.alloc hb3.size o).size o'); (try (have hr3 := (txt_one (p := rootN) (at_new w2.drew _ _ rfl)).below hB3)); clear hB3) | (go_at_call 38; refine (HCC.out _ _ _ _ _ (by exact at_new _ _ _ (by simp)) (by refine txt_one (t := 9) ?_; first | exact at_old _ (at_new _ _ _ (by simp)) | exact at_old _ (at_old _ (at_new _ _ _ (by simp)))) (by first | exact below_al (below_al (below_al hb3 _) _) _ | exact below_al (below_al hb3 _) _) (by first | exact (hr3.al _).al _ | exact txt_one (p := rootN) (at_old _ (at_new _ _ _ (by simp))) | exact txt_one (p := rootN) (at_old _ (at_old _ (at_new _ _ _ (by simp)))))).mono ?_; rintro e w4 ⟨po, pc, rfl, hp4, hb4⟩; have HP := Lib.hid (And.intro hp4 hb4); clear hp4 hb4))
        iterate 12 (exact HQ1.out _ _ _ _ _ _ HP)
      obtain rfl : e = .normal := by cases e <;> first | rfl | exact h.elim
      obtain ⟨x25, x30, x31, po, pc, rfl, HP⟩ := HQ2.out _ _ h
      clear h
      dsimp only
      go_wp2_with fail
      go_loopw [34, 9] (fun q o wr => ∃ k : Nat, k ≤ n ∧ q = .int .i64 (k : Int) ∧ (∃ oo oc, o = .slice oo (candL S name (ps.take k)).length oc ∧ wr.ownsRow w4.heap.size 9 1 (.slice oo (candL S name (ps.take k)).length oc) (candL S name (ps.take k)).length ((candL S name (ps.take k)).map sv)) ∧ Below w4.heap.size w4 wr) (fun q _ _ => n - (intOf q).toNat)
      case atStart => exact ⟨0, Nat.zero_le _, rfl, ⟨none, 0, rfl, rfl, .inl ⟨rfl, rfl⟩⟩, Below.refl _ _⟩
      case round =>
        obtain ⟨k, hk, rfl, ⟨oo, oc, rfl, hown⟩, hB⟩ := hrel
        have HBW : Hid (Below w.heap.size w wr) := HP.out.2.trans (hB.mono HP.out.2.size)
        have hlen := cand_len S name (ps.take k) []
        have hle2 : (candL S name (ps.take k)).length ≤ 1000000 := by
          have : (ps.take k).length ≤ k := by simp; omega
          unfold candL
          simp only [List.length_nil, Nat.zero_add] at hlen
          omega
        clear hlen
        by_cases hlt : k < n
        · have hkl : k < ps.length := by have := HN.out; omega
          obtain ⟨hpc0, hpc1, hpc2, hcell⟩ := HP.out.1.at_
          obtain ⟨gb, off, rfl, hgl, hc0⟩ := hcell k hkl
          have hc1 : wr.cell? ⟨gb, off + k, none⟩ = some (sv ps[k]) := (hB.cell (p := ⟨gb, off + k, none⟩) hgl).trans hc0
          have hpl2 := HPS.out ps[k] (List.getElem_mem _)
          have hA := fun W hb => AT.out W hb ps[k] hpl2
          have hCA := fun W => CA.out W ps[k] name hpl2 (by omega)
          have hstep := candL_snoc S name ps k hkl
          have HSO := Lib.hid (H.out.same (canonN rootN ps[k]))
          generalize ps[k] = p at *
          have hcx : wr.cell? ⟨gb, off + k, none⟩ = some (.string ⟨p.toArray⟩) := hc1
          have t0 : decide ((k : Int) < (n : Int)) = true := by rw [decide_eq_true_eq]; omega
          have i1 : k < n := hlt
          obtain ⟨out, hout⟩ : ∃ out, candL S name (ps.take k) = out := ⟨_, rfl⟩
          rw [hout] at hown hstep hle2 ⊢
          obtain ⟨on, hon⟩ : ∃ on, out.length = on := ⟨_, rfl⟩
          rw [hon] at hown hle2 ⊢
          obtain ⟨c, hc⟩ : ∃ c, canonN p name = c := ⟨_, rfl⟩
          rw [hc] at hCA
          have HCA := Lib.hid hCA
          have HK := Lib.hid (And.intro hlt hon)
          have HST := Lib.hid (And.intro hstep hc)
          have HO := Lib.hid hown
          have HBK := Lib.hid hB
          have hw1 : IntKind.i64.wrap ((k : Int) + 1) = (k : Int) + 1 := IntWalk.i64_in _ (by omega)
          cases hx : nd (canonN rootN p) with
          | none =>
            rw [hx] at hA
            have HA : Hid (∀ W, Below w.heap.size w W → Calls Tryz.prog 32 #[.pointer (some ⟨tb, 0, none⟩), .string ⟨p.toArray⟩] W fun e w' => e = .returned (.pointer none) ∧ Below W.heap.size W w') := hA
            have HX := Lib.hid hx
            have HSTEP : Hid (candL S name (ps.take (k + 1)) = out) := by
              show _ = _
              rw [hstep]; unfold candStep
              have h2 := HSO.out; rw [hx] at h2; rw [← h2]; rfl
            clear hA hCA hown hB hc0 hc1 hstep hx hlt hk hkl hout hon hc hcell hpc0 hpc1 hpc2 hpl2
            go_wp2_with (first | (go_at_call 19; refine (HCA.out _).mono ?_; rintro e w5 ⟨rfl, hB5⟩; have HB5 : Hid (Below wr.heap.size wr w5) := hB5; clear hB5) | (go_at_call 32; refine (HA.out _ (by exact HBW.out.trans (HB5.out.mono HBW.out.size))).mono ?_; rintro e w6 ⟨rfl, hB6⟩; have HB6 : Hid (Below wr.heap.size wr w6) := HB5.out.trans (hB6.mono HB5.out.size); have HT6 : Hid (w6.ownsRow w4.heap.size 9 1 (.slice oo on oc) on (out.map sv) ∧ TxtRow w6 (.slice oo on oc) out) := ⟨ownsRow_kp HO.out (kp_of_below HB6.out) (by simp), by have := ownsRow_kp HO.out (kp_of_below HB6.out) (by simp); rw [← HK.out.2] at this ⊢; exact TxtRow.of_owns this⟩; clear hB6))
            exact ⟨⟨k + 1, by have := HK.out; omega, by go_num, ⟨oo, oc, by rw [HSTEP.out, HK.out.2], by rw [HSTEP.out, HK.out.2]; exact HT6.out.1⟩, HBK.out.trans (HB6.out.mono HBK.out.size)⟩, by have := HK.out; simp [intOf]; omega⟩
          | some bb =>
            rw [hx] at hA
            have HA : Hid (∀ W, Below w.heap.size w W → Calls Tryz.prog 32 #[.pointer (some ⟨tb, 0, none⟩), .string ⟨p.toArray⟩] W fun e w' => e = .returned (.pointer (some ⟨bb, 0, none⟩)) ∧ Below W.heap.size W w') := hA
            have HX := Lib.hid hx
            have hS2 : (S (canonN rootN p)).isSome = true := by have h2 := HSO.out; rw [hx] at h2; rw [← h2]; rfl
            have hCO : ∀ W, TxtRow W (.slice oo on oc) out → Calls Tryz.prog 39 #[.slice oo on oc, .string ⟨c.toArray⟩] W fun e w' => e = .returned (.bool (hasB out c)) ∧ W = w' := fun W ht => contains_any ht c
            cases hh : hasB out c with
            | true =>
              rw [hh] at hCO
              have HCO := Lib.hid hCO
              have HSTEP : Hid (candL S name (ps.take (k + 1)) = out) := by
                show _ = _
                rw [hstep]; unfold candStep; rw [hc, hh, hS2]; rfl
              clear hA hCA hown hB hc0 hc1 hstep hx hlt hk hkl hout hon hc hcell hpc0 hpc1 hpc2 hpl2 hh hCO hS2
              go_wp2_with (first | (go_at_call 19; refine (HCA.out _).mono ?_; rintro e w5 ⟨rfl, hB5⟩; have HB5 : Hid (Below wr.heap.size wr w5) := hB5; clear hB5) | (go_at_call 32; refine (HA.out _ (by exact HBW.out.trans (HB5.out.mono HBW.out.size))).mono ?_; rintro e w6 ⟨rfl, hB6⟩; have HB6 : Hid (Below wr.heap.size wr w6) := HB5.out.trans (hB6.mono HB5.out.size); have HT6 : Hid (w6.ownsRow w4.heap.size 9 1 (.slice oo on oc) on (out.map sv) ∧ TxtRow w6 (.slice oo on oc) out) := ⟨ownsRow_kp HO.out (kp_of_below HB6.out) (by simp), by have := ownsRow_kp HO.out (kp_of_below HB6.out) (by simp); rw [← HK.out.2] at this ⊢; exact TxtRow.of_owns this⟩; clear hB6) | (go_at_call 39; refine (HCO.out _ HT6.out.2).mono ?_; rintro e w7 ⟨rfl, rfl⟩))
              exact ⟨⟨k + 1, by have := HK.out; omega, by go_num, ⟨oo, oc, by rw [HSTEP.out, HK.out.2], by rw [HSTEP.out, HK.out.2]; exact HT6.out.1⟩, HBK.out.trans (HB6.out.mono HBK.out.size)⟩, by have := HK.out; simp [intOf]; omega⟩
            | false =>
              rw [hh] at hCO
              have HCO := Lib.hid hCO
              have HSTEP : Hid (candL S name (ps.take (k + 1)) = out ++ [c]) := by
                show _ = _
                rw [hstep]; unfold candStep; rw [hc, hh, hS2]; rfl
              clear hA hCA hown hB hc0 hc1 hstep hx hlt hk hkl hout hon hc hcell hpc0 hpc1 hpc2 hpl2 hh hCO hS2
              go_wp2_with (first | (go_at_call 19; refine (HCA.out _).mono ?_; rintro e w5 ⟨rfl, hB5⟩; have HB5 : Hid (Below wr.heap.size wr w5) := hB5; clear hB5) | (go_at_call 32; refine (HA.out _ (by exact HBW.out.trans (HB5.out.mono HBW.out.size))).mono ?_; rintro e w6 ⟨rfl, hB6⟩; have HB6 : Hid (Below wr.heap.size wr w6) := HB5.out.trans (hB6.mono HB5.out.size); have HT6 : Hid (w6.ownsRow w4.heap.size 9 1 (.slice oo on oc) on (out.map sv) ∧ TxtRow w6 (.slice oo on oc) out) := ⟨ownsRow_kp HO.out (kp_of_below HB6.out) (by simp), by have := ownsRow_kp HO.out (kp_of_below HB6.out) (by simp); rw [← HK.out.2] at this ⊢; exact TxtRow.of_owns this⟩; clear hB6) | (go_at_call 39; refine (HCO.out _ HT6.out.2).mono ?_; rintro e w7 ⟨rfl, rfl⟩) | (at_builtin; go_loud (refine wpList_push rfl (.tmp 51) (.tmp 53) 27 rfl w4.heap.size 9 (.string ⟨#[]⟩) 16 Tryz.underlying27 infoStr rfl (.slice oo on oc) on _ rfl HT6.out.1 (.string ⟨c.toArray⟩) _ rfl rfl (by unfold maxLen; omega) (by omega) (Nat.le_trans HBK.out.size HB6.out.size) ?_); intro g1 c1 w8 hg1 hown8 hb8 hloc; have H8 : Hid (w8.ownsRow w4.heap.size 9 1 (.slice (some ⟨g1, 0, none⟩) (on + 1) c1) (on + 1) (out.map sv ++ [.string ⟨c.toArray⟩]) ∧ Below w4.heap.size w6 w8) := ⟨hown8, hb8⟩; clear hg1 hown8 hb8 hloc))
              exact ⟨⟨k + 1, by have := HK.out; omega, by go_num, ⟨some ⟨g1, 0, none⟩, c1, by rw [HSTEP.out, List.length_append, HK.out.2]; rfl, by rw [HSTEP.out, List.length_append, HK.out.2, List.map_append]; exact H8.out.1⟩, (HBK.out.trans (HB6.out.mono HBK.out.size)).trans H8.out.2⟩, by have := HK.out; simp [intOf]; omega⟩
        · have hkn : k = n := by omega
          subst hkn
          have t0 : decide ((k : Int) < (k : Int)) = false := by rw [decide_eq_false_iff_not]; omega
          have hnn := HN.out
          rw [List.take_of_length_le (by omega)] at hown ⊢
          obtain ⟨on, hon⟩ : ∃ on, (candL S name ps).length = on := ⟨_, rfl⟩
          rw [hon] at hown ⊢
          have HE := Lib.hid (And.intro hown hon)
          clear hown hB hk hlt hnn hon hle2
          go_wp2_with fail
          go_ret2
          exact ⟨oo, oc, (by rw [HE.out.2]; rfl), (by rw [HE.out.2]; exact row_base HE.out.1 HP.out.2.size), HBW.out⟩
end Go.Proofs.YtjgdfgpnmmkjfaaGreatDoor

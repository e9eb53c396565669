/- 'add'. -/
import Derived.Test.YtbbbenjakjejmaaGreatTbTake2
import Derived.Test.YtbbbenjakjejmaaGreatTbEntry
namespace Go.Proofs.YtbbbenjakjejmaaGreat
set_option linter.unusedVariables false
set_option linter.unusedSimpArgs false
open Go.RowKit Go.MapKept Go.WideMaps
theorem infoP : (Tryz.prog.info? 60).map (fun i => (i.zero, i.size, i.bytes)) = some (some (.pointer none), 1, 8) := by kernel_rfl
def newC (cb : Nat → Nat) (n : Nat) (name : Bs) (org : Nat) : Obj := .cells #[.int .i64 (n : Int), .string ⟨name.toArray⟩, .bool false, ptrO cb org, .slice none 0 0] 63
def setCb (cb : Nat → Nat) (n b : Nat) : Nat → Nat := fun k => if k = n then b else cb k
section
variable {B tb mn mh mk : Nat} {who : Own} {cb : Nat → Nat}
/-- The table with the new command's block, not yet named. -/
theorem Tb.newBlock {w : World} {S : TS} (h : Tb w B tb mn mh mk who cb S) (hW : WF S) {n : Nat} (hn : ∀ i c, S.cm i = some c → i ≠ n) (name : Bs) (org : Nat) (ho : org = 0 ∨ ∃ p, S.cm org = some p) :
    Tb (w.alloc (newC cb n name org)) B tb mn mh mk (who.set w.heap.size (4, n)) (setCb cb n w.heap.size) S ∧
      CmAt (w.alloc (newC cb n name org)) B (who.set w.heap.size (4, n)) (setCb cb n w.heap.size) n ⟨name, false, org, []⟩ ∧
      Stp who (who.set w.heap.size (4, n)) w (w.alloc (newC cb n name org)) := by
  have hb : Below w.heap.size w (w.alloc (newC cb n name org)) := (Below.refl _ w).alloc (Nat.le_refl _) _
  have hnew : (w.alloc (newC cb n name org)).heap[w.heap.size]? = some (newC cb n name org) := heap_alloc_new w _
  have hT := ((h.low hb).recb hW (cb' := setCb cb n w.heap.size) (fun i c hi => if_neg (hn i c hi))).own (t := (4, n)) (h.none_at (Nat.le_refl _)) h.base (by simp)
  have hcb : setCb cb n w.heap.size n = w.heap.size := if_pos rfl
  refine ⟨hT, ⟨by rw [hcb]; exact Own.set_same _ _ _, .slice none 0 0, ?_, ⟨rfl, .inl ⟨rfl, rfl⟩⟩, fun g hg => by simp [Value.ownBlock] at hg⟩, ⟨(Stp.of_below (who := who) hb).fr, fun j hj => Own.set_other (by omega)⟩⟩
  rw [hcb, hnew]
  unfold newC ptrO
  by_cases e : org = 0
  · rw [if_pos e, if_pos e]
  · rw [if_neg e, if_neg e]
    obtain ⟨p, hp⟩ := ho.resolve_left e
    rw [show setCb cb n w.heap.size org = cb org from if_neg (hn org p hp)]
/-- What 'add' tells and leaves. -/
def AddP (w : World) (B tb mn mh mk : Nat) (who : Own) (S : TS) (name : Bs) (org : Nat) (e : Ending) (w' : World) : Prop :=
  ∃ who' cb' o cap S' L, e = .returned (.tuple #[.int .i64 (S'.last : Int), .slice o L.length cap]) ∧ AddR S name org S' L ∧ Tb w' B tb mn mh mk who' cb' S' ∧ IR w' B who' (.slice o L.length cap) (srtI (L.map (fun k : Nat => (k : Int)))) ∧ Stp who who' w w'
theorem addA {S1 : TS} {w1 : World} (hT1 : Tb w1 B tb mn mh mk who cb S1) (hW1 : WF S1) (hl1 : S1.last ≤ 800000) (name : Bs) {org : Nat} (hog : org = 0 ∨ ∃ p, S1.cm org = some p) :
    ∃ (n nb : Nat) (w2 w3 : World), w1.cell? ⟨tb, 3, none⟩ = some (.int .i64 (S1.last : Int)) ∧ w1.frozen? ⟨tb, 3, none⟩ = false ∧ IntKind.i64.wrap ((S1.last : Int) + 1) = (n : Int) ∧ w1.setCell ⟨tb, 3, none⟩ (.int .i64 (n : Int)) = w2 ∧
      w2.cell? ⟨tb, 3, none⟩ = some (.int .i64 (n : Int)) ∧ w2.heap.size = nb ∧ w2.alloc (.cells #[.int .i64 (n : Int), .string ⟨name.toArray⟩, .bool false, ptrO cb org, .slice none 0 0] 63) = w3 ∧
      Hid (Tb w3 B tb mn mh mk (who.set nb (4, n)) (setCb cb n nb) { S1 with last := n } ∧ CmAt w3 B (who.set nb (4, n)) (setCb cb n nb) n ⟨name, false, org, []⟩ ∧ Stp who (who.set nb (4, n)) w1 w3 ∧ setCb cb n nb n = nb ∧ S1.cm n = none ∧ n = S1.last + 1) := by
  have a3 := hT1.cells.2.2.2.1
  have af := hT1.cells.2.2.2.2.2 3
  have hw1 : IntKind.i64.wrap ((S1.last : Int) + 1) = ((S1.last + 1 : Nat) : Int) := by rw [IntWalk.i64_in _ (by omega)]; omega
  obtain ⟨hT2, hS2⟩ := hT1.setHdr 3 (.inl rfl) (S1.last + 1)
  rw [if_pos rfl] at hT2
  have hW2 := wf_last hW1 (l := S1.last + 1) (Nat.le_succ _)
  obtain ⟨hT3, hC3, hS3⟩ := hT2.newBlock hW2 (n := S1.last + 1) (fun i c hi => by have := (hW1.pos i c hi).2; omega) name org hog
  have hnw : S1.cm (S1.last + 1) = none := by
    cases e : S1.cm (S1.last + 1) with
    | none => rfl
    | some c => have := (hW1.pos _ c e).2; omega
  exact ⟨S1.last + 1, _, _, _, a3, af, hw1, rfl, hT2.cells.2.2.2.1, rfl, rfl, hT3, hC3, hS2.trans hS3, if_pos rfl, hnw, rfl⟩
theorem addB {S1 : TS} {w3 : World} {n nb org : Nat} (hT3 : Tb w3 B tb mn mh mk (who.set nb (4, n)) (setCb cb n nb) { S1 with last := n }) (hW1 : WF S1) (hl1 : S1.last ≤ 800000) (hn : n = S1.last + 1) (hnw : S1.cm n = none) {p : Cm} (hp : S1.cm org = some p) :
    ∃ io ic pn, w3.cell? ⟨cb org, 4, none⟩ = some (.slice io pn ic) ∧ pn ≤ 900000 ∧ B ≤ w3.heap.size ∧ Hid (p.imp.length = pn ∧ setCb cb n nb org = cb org) ∧
      Hid (w3.ownsRow B 60 1 (.slice io pn ic) pn (p.imp.map fun i => ptrC (setCb cb n nb i)) ∧ ∀ g, (Value.slice io pn ic).ownBlock = some g → who.set nb (4, n) g = some (5, org)) ∧
      Hid (∀ w6, Kp (Value.slice io pn ic).ownBlock.toList w3 w6 → (∃ u, w6.cell? ⟨cb org, 4, none⟩ = some u) ∧ w6.frozen? ⟨cb org, 4, none⟩ = false) := by
  have hC := hT3.cmd org p hp
  have hcbo : setCb cb n nb org = cb org := if_neg (fun e => by rw [e, hnw] at hp; cases hp)
  obtain ⟨_, _, _, _, ⟨io, ic, r4, hrow, hid⟩, rf⟩ := hC.cells
  have hil := hW1.imp_len hp
  have hcl := S1.cnt_le
  rw [hcbo] at r4
  refine ⟨io, ic, p.imp.length, r4, by omega, hT3.base, ⟨rfl, hcbo⟩, ⟨hrow, hid⟩, fun w6 hk => ?_⟩
  obtain ⟨h1, v, h2, _⟩ := hC
  rw [hcbo] at h1 h2
  have h6 := (hk.block (cb org) (Array.getElem?_eq_some_iff.1 h2).1 (fun hm => by have := hid (cb org) (by simpa using hm); rw [h1] at this; simp at this)).trans h2
  exact ⟨⟨v, by simp [World.cell?, h6]⟩, by simp [World.frozen?, h6]⟩
set_option maxRecDepth 100000 in
set_option maxHeartbeats 3200000 in
theorem add_any {S : TS} {w : World} (h : Tb w B tb mn mh mk who cb S) (hW : WF S) (hl : S.last ≤ 800000) (he : S.epoch ≤ 800000) (name : Bs) (hnl : name.length ≤ 100000) (org : Nat) (ho : OrgOk S name org) :
    Calls Tryz.prog 42 #[.pointer (some ⟨tb, 0, none⟩), .string ⟨name.toArray⟩, ptrO cb org] w (AddP w B tb mn mh mk who S name org) := by
  have hlk := h.lookName false (k := name) (by unfold maxLen; omega)
  have t0 := h.cells.1
  cases hn : S.nm false name with
  | none =>
    rw [hn] at hlk
    simp only [ptrM, Option.map_none, kindB, Bool.false_eq_true, if_false] at hlk
    have HA : Hid (AddR S name org (addT S name org) []) := .inl ⟨hn, rfl, rfl⟩
    have HT1 : Hid (Tb w B tb mn mh mk who cb S ∧ WF S ∧ S.nm false name = none ∧ (org = 0 ∨ ∃ p, S.cm org = some p) ∧ S.last ≤ 800000 ∧ S.epoch ≤ 800000) := ⟨h, hW, hn, ho.some, hl, he⟩
    clear h hW ho hn hl he
    obtain ⟨S1, hS1⟩ : ∃ S1, S1 = S := ⟨_, rfl⟩
    obtain ⟨w1, hwe⟩ : ∃ w1, w1 = w := ⟨_, rfl⟩
    rw [← hS1] at HA HT1 ⊢
    rw [← hwe] at HT1 hlk t0 ⊢
    clear hwe hS1
    by_cases hoz : org = 0
    · subst hoz
      rw [show ptrO cb 0 = .pointer none from rfl]
      obtain ⟨n, nb, w2, w3, a3, af, hwr, hw2, a23, hnb2, hw3, HT3⟩ := addA (name := name) (org := 0) HT1.out.1 HT1.out.2.1 HT1.out.2.2.2.2.1 HT1.out.2.2.2.1
      rw [show ptrO cb 0 = .pointer none from rfl] at hw3
      go_enter Tryz.func42, Tryz.ntmps42
      go_wp2_with fail
      obtain ⟨hT3, hC3, hS3, hnb, hnw, hn⟩ := HT3.out
      obtain ⟨hT1, hW1, hnm, hog, hl1, he1⟩ := HT1.out
      obtain ⟨S5, hS5e⟩ : ∃ S5 : TS, S5 = { S1 with last := n } := ⟨_, rfl⟩
      have hT5 := hT3
      have hC5 := hC3
      have hS5 := hS3
      rw [← hS5e] at hT5
      generalize hwho5 : who.set nb (4, n) = who5 at hT5 hC5 hS5
      have hFin : ({ ({ S5 with nm := fun h k => if h = false ∧ k = name then some n else S5.nm h k, cm := fun k => if k = n then some ⟨name, false, 0, []⟩ else S5.cm k } : TS) with epoch := S5.epoch + 1 } : TS) = addT S1 name 0 := by
        rw [hS5e, hn]; unfold addT
        simp only [TS.mk.injEq, true_and, and_true]
        funext k
        by_cases e : k = S1.last + 1
        · rw [if_pos e, if_pos e]
        · rw [if_neg e, if_neg e]
          cases hk : S1.cm k with
          | none => rfl
          | some d => have := (hW1.pos k d hk).1; rw [Option.map_some, if_neg (by omega)]
      have hnm5 : S5.nm false name = none := by rw [hS5e]; exact hnm
      have hcm5 : S5.cm n = none := by rw [hS5e]; exact hnw
      have he5 : S5.epoch ≤ 800000 := by rw [hS5e]; exact he1
      generalize hw5 : w3 = w5 at hT5 hC5 hS5 ⊢
      generalize hcb5 : setCb cb n nb = cb5 at hT5 hC5 hnb
      have hB5 : Below w5.heap.size w5 w5.drew := (Below.refl _ _).drew
      have hT5d := hT5.low hB5
      have hC5d : CmAt w5.drew B who5 cb5 n ⟨name, false, 0, []⟩ := hC5
      obtain ⟨s1, s2, wA, wB, wC, wE, wF, wG, m1, m2, m12, m21, e1, e2, e3, m22, d0, dC, dA, dB, dE, dF, d6, hT6, hS6⟩ := entry_facts hT5d hC5d hnl (by omega) hnm5 hcm5 (nat_wf (by omega))
      rw [hnb] at e1 e2 e3 d0 dC dA dB dE dF d6
      have x4 := hT6.cells.2.2.2.2.1
      have xf := hT6.cells.2.2.2.2.2 4
      simp only at x4
      obtain ⟨hT7, hS7⟩ := hT6.setHdr 4 (.inr rfl) (S5.epoch + 1)
      rw [if_neg (by decide)] at hT7
      have hw7 : IntKind.i64.wrap ((S5.epoch : Int) + 1) = ((S5.epoch + 1 : Nat) : Int) := by rw [IntWalk.i64_in _ (by omega)]; omega
      have p0 : ∀ u, (wG.setCell ⟨tb, 4, none⟩ u).cell? ⟨nb, 0, none⟩ = some (.int .i64 (n : Int)) := fun u => by
        have hne : nb ≠ tb := by rw [← hnb]; exact hT5.ne hC5.1 hT5.wtb (by simp)
        rw [World.cell?_of_block (a := ⟨nb, 0, none⟩) (set_other wG u hne)]; exact d6.2.2
      have HFN : Hid (Tb (wG.setCell ⟨tb, 4, none⟩ (.int .i64 ((S5.epoch + 1 : Nat) : Int))) B tb mn mh mk who5 cb5 (addT S1 name 0) ∧ Stp who who5 w1 (wG.setCell ⟨tb, 4, none⟩ (.int .i64 ((S5.epoch + 1 : Nat) : Int))) ∧ n = (addT S1 name 0).last) := by
        refine ⟨?_, ((hS5.low hB5).trans hS6).trans hS7, hn⟩
        rw [← hFin]; exact hT7
      unfold Rd at d0 dC dA dB dE dF d6
      obtain ⟨en, hen⟩ : ∃ en, S5.epoch = en := ⟨_, rfl⟩
      rw [hen] at x4 hw7 HFN
      clear hT5 hC5 hS5 hT5d hC5d hT6 hS6 hT7 hS7 hFin hnm5 hcm5 hW1 hT1 hnm hog hnb hnw hB5 hn hS5e hT3 hC3 hS3 he5 hen
      go_region_held3 (fun w' => w'.cell? ⟨tb, 0, none⟩ = some (.map (some mn)) ∧ w'.cell? ⟨tb, 2, none⟩ = some (.map (some mk)) ∧ w'.cell? ⟨nb, 0, none⟩ = some (.int .i64 (n : Int))) (first | go_keep | exact d0 | exact dA | exact dC | exact dB | exact dE | exact dF | exact d6) (fail)
      all_goals
        go_wp2_with fail
        go_ret2
        exact ⟨who5, cb5, none, 0, _, [], by rw [← HFN.out.2.2]; rfl, HA.out, HFN.out.1, by simpa [srtI] using IR.nil _ B who5, HFN.out.2.1⟩
    · rw [ptrO_some hoz]
      obtain ⟨n, nb, w2, w3, a3, af, hwr, hw2, a23, hnb2, hw3, HT3⟩ := addA (name := name) (org := org) HT1.out.1 HT1.out.2.1 HT1.out.2.2.2.2.1 HT1.out.2.2.2.1
      rw [ptrO_some hoz] at hw3
      obtain ⟨p, hp⟩ := (HT1.out.2.2.2.1).resolve_left hoz
      obtain ⟨io, ic, pn, r4, hpl, hb3, HPN, ROW, KK⟩ := addB HT3.out.1 HT1.out.2.1 HT1.out.2.2.2.2.1 HT3.out.2.2.2.2.2 HT3.out.2.2.2.2.1 hp
      have HPP := Lib.hid hp
      clear hp
      go_enter Tryz.func42, Tryz.ntmps42
      go_wp2_with (first | (at_builtin; go_loud (refine wpList_push1 rfl (.tmp 43) (.tmp 45) 61 rfl B 60 (.pointer none) 8 Tryz.underlying61 infoP rfl (.slice io pn ic) pn _ rfl ROW.out.1 (.pointer (some ⟨nb, 0, none⟩)) _ rfl rfl rfl (by unfold maxLen; omega) (by omega) hb3 ?_); intro g c6 w6 hg6 hr6 hk6 hl6; obtain ⟨⟨u6, k6⟩, z6⟩ := KK.out w6 hk6; have H6 := Lib.hid (And.intro hr6 (And.intro hk6 hl6)); clear hg6 hr6 hk6 hl6))
      obtain ⟨hT3, hC3, hS3, hnb, hnw, hn⟩ := HT3.out
      obtain ⟨hT1, hW1, hnm, hog, hl1, he1⟩ := HT1.out
      have hS5x : ∃ who5, Tb (w6.setCell ⟨cb org, 4, none⟩ (.slice (some ⟨g, 0, none⟩) (pn + 1) c6)) B tb mn mh mk who5 (setCb cb n nb) { ({ S1 with last := n } : TS) with cm := fun k => if k = org then some { p with imp := p.imp ++ [n] } else S1.cm k } ∧ CmAt (w6.setCell ⟨cb org, 4, none⟩ (.slice (some ⟨g, 0, none⟩) (pn + 1) c6)) B who5 (setCb cb n nb) n ⟨name, false, org, []⟩ ∧ Stp who who5 w1 (w6.setCell ⟨cb org, 4, none⟩ (.slice (some ⟨g, 0, none⟩) (pn + 1) c6)) := by
        obtain ⟨hr6, hk6, hl6⟩ := H6.out
        have hcb4 := HPN.out.2
        have hlen : (p.imp ++ [n]).length = pn + 1 := by rw [List.length_append, HPN.out.1]; rfl
        have hr7 : w6.ownsRow B 60 1 (.slice (some ⟨g, 0, none⟩) (pn + 1) c6) (p.imp ++ [n]).length ((p.imp ++ [n]).map fun i => ptrC (setCb cb n nb i)) := by
          rw [hlen, List.map_append]
          have e : ([n].map fun i => ptrC (setCb cb n nb i)) = [.pointer (some ⟨nb, 0, none⟩)] := by simp only [List.map_cons, List.map_nil, hnb, ptrC]
          rw [e]; exact hr6
        have hor : n ≠ org := fun e => by rw [← e, hnw] at HPP; cases HPP.out
        have key : ∀ who5, ((Value.slice (some ⟨g, 0, none⟩) (pn + 1) c6).ownBlock = (Value.slice io pn ic).ownBlock ∧ who5 = who.set nb (4, n)) ∨ (∃ g', (Value.slice (some ⟨g, 0, none⟩) (pn + 1) c6).ownBlock = some g' ∧ w3.heap.size ≤ g' ∧ who5 = (who.set nb (4, n)).set g' (5, org)) → Tb (w6.setCell ⟨cb org, 4, none⟩ (.slice (some ⟨g, 0, none⟩) (pn + 1) c6)) B tb mn mh mk who5 (setCb cb n nb) { ({ S1 with last := n } : TS) with cm := fun k => if k = org then some { p with imp := p.imp ++ [n] } else S1.cm k } ∧ CmAt (w6.setCell ⟨cb org, 4, none⟩ (.slice (some ⟨g, 0, none⟩) (pn + 1) c6)) B who5 (setCb cb n nb) n ⟨name, false, org, []⟩ ∧ Stp who who5 w1 (w6.setCell ⟨cb org, 4, none⟩ (.slice (some ⟨g, 0, none⟩) (pn + 1) c6)) := fun who5 hg => by
          have hv : w3.cell? ⟨setCb cb n nb org, 4, none⟩ = some (.slice io pn ic) := by rw [hcb4]; exact r4
          obtain ⟨q1, q2⟩ := hT3.setImp (who' := who5) (imp' := p.imp ++ [n]) HPP.out hv hk6 hr7 hg
          rw [hcb4] at q1 q2
          have hmono : ∀ j t, who.set nb (4, n) j = some t → who5 j = some t := by
            rcases hg with ⟨_, rfl⟩ | ⟨g', _, hge, rfl⟩
            · exact fun _ _ h => h
            · exact own_set_mono (hT3.none_at hge)
          refine ⟨q1, hC3.keep ?_ (fun j hj => ?_) hmono, hS3.trans q2⟩
          · rw [hnb]
            have hne : nb ≠ cb org := by rw [← hnb, ← hcb4]; exact hT3.ne hC3.1 (hT3.cmd org p HPP.out).1 (by simp [hor])
            refine (set_other w6 _ hne).trans (hk6.block nb (by rw [← hnb]; exact (hT3.lo _ (by rw [hC3.1]; simp)).2) (fun hm => ?_))
            have h5 := ROW.out.2 nb (by simpa using hm)
            rw [Own.set_same] at h5
            simp at h5
          · have hne : j ≠ cb org := by rw [← hcb4]; exact hT3.ne hj (hT3.cmd org p HPP.out).1 (by simp)
            refine (set_other w6 _ hne).trans (hk6.block j (hT3.lo j (by rw [hj]; simp)).2 (fun hm => ?_))
            have h5 := ROW.out.2 j (by simpa using hm)
            rw [hj] at h5
            simp [hor] at h5
        rcases hl6 with hl6 | hl6
        · exact ⟨_, key _ (.inl ⟨by rw [hl6]; rfl, rfl⟩)⟩
        · exact ⟨_, key _ (.inr ⟨g, rfl, hl6, rfl⟩)⟩
      obtain ⟨who5, hT5, hC5, hS5⟩ := hS5x
      generalize hS5e : ({ ({ S1 with last := n } : TS) with cm := fun k => if k = org then some { p with imp := p.imp ++ [n] } else S1.cm k } : TS) = S5 at hT5
      have hS5e := hS5e.symm
      generalize hw5 : w6.setCell ⟨cb org, 4, none⟩ (.slice (some ⟨g, 0, none⟩) (pn + 1) c6) = w5 at hT5 hC5 hS5 ⊢
      have hFin : ({ ({ S5 with nm := fun h k => if h = false ∧ k = name then some n else S5.nm h k, cm := fun k => if k = n then some ⟨name, false, org, []⟩ else S5.cm k } : TS) with epoch := S5.epoch + 1 } : TS) = addT S1 name org := by
        rw [hS5e, hn]; unfold addT
        simp only [TS.mk.injEq, true_and, and_true]
        funext k
        by_cases e : k = S1.last + 1
        · rw [if_pos e, if_pos e]
        · rw [if_neg e, if_neg e]
          by_cases e2 : k = org
          · rw [if_pos e2, e2, HPP.out, Option.map_some, if_pos rfl]
          · rw [if_neg e2]
            cases hk : S1.cm k with
            | none => rfl
            | some d => rw [Option.map_some, if_neg e2]
      have hnm5 : S5.nm false name = none := by rw [hS5e]; exact hnm
      have hcm5 : S5.cm n = none := by
        rw [hS5e]
        have hor : n ≠ org := fun e => by rw [← e, hnw] at HPP; cases HPP.out
        simp only [if_neg hor]; exact hnw
      have he5 : S5.epoch ≤ 800000 := by rw [hS5e]; exact he1
      generalize hcb5 : setCb cb n nb = cb5 at hT5 hC5 hnb
      have hB5 : Below w5.heap.size w5 w5.drew := (Below.refl _ _).drew
      have hT5d := hT5.low hB5
      have hC5d : CmAt w5.drew B who5 cb5 n ⟨name, false, org, []⟩ := hC5
      obtain ⟨s1, s2, wA, wB, wC, wE, wF, wG, m1, m2, m12, m21, e1, e2, e3, m22, d0, dC, dA, dB, dE, dF, d6, hT6, hS6⟩ := entry_facts hT5d hC5d hnl (by omega) hnm5 hcm5 (nat_wf (by omega))
      rw [hnb] at e1 e2 e3 d0 dC dA dB dE dF d6
      have x4 := hT6.cells.2.2.2.2.1
      have xf := hT6.cells.2.2.2.2.2 4
      simp only at x4
      obtain ⟨hT7, hS7⟩ := hT6.setHdr 4 (.inr rfl) (S5.epoch + 1)
      rw [if_neg (by decide)] at hT7
      have hw7 : IntKind.i64.wrap ((S5.epoch : Int) + 1) = ((S5.epoch + 1 : Nat) : Int) := by rw [IntWalk.i64_in _ (by omega)]; omega
      have p0 : ∀ u, (wG.setCell ⟨tb, 4, none⟩ u).cell? ⟨nb, 0, none⟩ = some (.int .i64 (n : Int)) := fun u => by
        have hne : nb ≠ tb := by rw [← hnb]; exact hT5.ne hC5.1 hT5.wtb (by simp)
        rw [World.cell?_of_block (a := ⟨nb, 0, none⟩) (set_other wG u hne)]; exact d6.2.2
      have HFN : Hid (Tb (wG.setCell ⟨tb, 4, none⟩ (.int .i64 ((S5.epoch + 1 : Nat) : Int))) B tb mn mh mk who5 cb5 (addT S1 name org) ∧ Stp who who5 w1 (wG.setCell ⟨tb, 4, none⟩ (.int .i64 ((S5.epoch + 1 : Nat) : Int))) ∧ n = (addT S1 name org).last) := by
        refine ⟨?_, ((hS5.low hB5).trans hS6).trans hS7, hn⟩
        rw [← hFin]; exact hT7
      unfold Rd at d0 dC dA dB dE dF d6
      obtain ⟨en, hen⟩ : ∃ en, S5.epoch = en := ⟨_, rfl⟩
      rw [hen] at x4 hw7 HFN
      clear hT5 hC5 hS5 hT5d hC5d hT6 hS6 hT7 hS7 hFin hnm5 hcm5 hW1 hT1 hnm hog hnb hnw hB5 hn hS5e hT3 hC3 hS3 he5 hen
      go_region_held3 (fun w' => w'.cell? ⟨tb, 0, none⟩ = some (.map (some mn)) ∧ w'.cell? ⟨tb, 2, none⟩ = some (.map (some mk)) ∧ w'.cell? ⟨nb, 0, none⟩ = some (.int .i64 (n : Int))) (first | go_keep | exact d0 | exact dA | exact dC | exact dB | exact dE | exact dF | exact d6) (fail)
      all_goals
        go_wp2_with fail
        go_ret2
        exact ⟨who5, cb5, none, 0, _, [], by rw [← HFN.out.2.2]; rfl, HA.out, HFN.out.1, by simpa [srtI] using IR.nil _ B who5, HFN.out.2.1⟩
  | some n0 =>
    rw [hn] at hlk
    simp only [ptrM, Option.map_some, kindB, Bool.false_eq_true, if_false] at hlk
    obtain ⟨c0, hc0, _⟩ := (hW.names _ _ _).1 hn
    have TK := Lib.hid (take_any h hW (by omega) hc0)
    have HW := Lib.hid (And.intro hW (And.intro hn (And.intro ho (And.intro hl he))))
    clear h hW ho hn hl he hc0
    by_cases hoz : org = 0
    · subst hoz
      rw [show ptrO cb 0 = .pointer none from rfl]
      go_enter Tryz.func42, Tryz.ntmps42
      go_wp2_with (first | (go_at_call 45; refine TK.out.mono ?_; rintro e w1 ⟨o, cap, S1, L, rfl, hG, hT1, hI, hS⟩; have HA : Hid (AddR S name 0 (addT S1 name 0) L ∧ IR w1 B who (.slice o L.length cap) (srtI (L.map (fun k : Nat => (k : Int)))) ∧ Stp who who w w1) := ⟨.inr ⟨n0, S1, HW.out.2.1, hG, rfl⟩, hI, hS⟩; have HT1 : Hid (Tb w1 B tb mn mh mk who cb S1 ∧ WF S1 ∧ S1.nm false name = none ∧ (0 = 0 ∨ ∃ p, S1.cm 0 = some p) ∧ S1.last ≤ 800000 ∧ S1.epoch ≤ 800000) := ⟨hT1, hG.wf, hG.none_nm HW.out.2.1, hG.org HW.out.1 HW.out.2.1 HW.out.2.2.1, by have := hG.last; have := HW.out.2.2.2.1; omega, by have := hG.epoch; have := HW.out.2.2.2.2; omega⟩; clear hG hT1 hI hS; obtain ⟨n, nb, w2, w3, a3, af, hwr, hw2, a23, hnb2, hw3, HT3⟩ := addA (name := name) (org := 0) HT1.out.1 HT1.out.2.1 HT1.out.2.2.2.2.1 HT1.out.2.2.2.1; rw [show ptrO cb 0 = .pointer none from rfl] at hw3))
      obtain ⟨hT3, hC3, hS3, hnb, hnw, hn⟩ := HT3.out
      obtain ⟨hT1, hW1, hnm, hog, hl1, he1⟩ := HT1.out
      obtain ⟨S5, hS5e⟩ : ∃ S5 : TS, S5 = { S1 with last := n } := ⟨_, rfl⟩
      have hT5 := hT3
      have hC5 := hC3
      have hS5 := hS3
      rw [← hS5e] at hT5
      generalize hwho5 : who.set nb (4, n) = who5 at hT5 hC5 hS5
      have hFin : ({ ({ S5 with nm := fun h k => if h = false ∧ k = name then some n else S5.nm h k, cm := fun k => if k = n then some ⟨name, false, 0, []⟩ else S5.cm k } : TS) with epoch := S5.epoch + 1 } : TS) = addT S1 name 0 := by
        rw [hS5e, hn]; unfold addT
        simp only [TS.mk.injEq, true_and, and_true]
        funext k
        by_cases e : k = S1.last + 1
        · rw [if_pos e, if_pos e]
        · rw [if_neg e, if_neg e]
          cases hk : S1.cm k with
          | none => rfl
          | some d => have := (hW1.pos k d hk).1; rw [Option.map_some, if_neg (by omega)]
      have hnm5 : S5.nm false name = none := by rw [hS5e]; exact hnm
      have hcm5 : S5.cm n = none := by rw [hS5e]; exact hnw
      have he5 : S5.epoch ≤ 800000 := by rw [hS5e]; exact he1
      generalize hw5 : w3 = w5 at hT5 hC5 hS5 ⊢
      generalize hcb5 : setCb cb n nb = cb5 at hT5 hC5 hnb
      have hB5 : Below w5.heap.size w5 w5.drew := (Below.refl _ _).drew
      have hT5d := hT5.low hB5
      have hC5d : CmAt w5.drew B who5 cb5 n ⟨name, false, 0, []⟩ := hC5
      obtain ⟨s1, s2, wA, wB, wC, wE, wF, wG, m1, m2, m12, m21, e1, e2, e3, m22, d0, dC, dA, dB, dE, dF, d6, hT6, hS6⟩ := entry_facts hT5d hC5d hnl (by omega) hnm5 hcm5 (nat_wf (by omega))
      rw [hnb] at e1 e2 e3 d0 dC dA dB dE dF d6
      have x4 := hT6.cells.2.2.2.2.1
      have xf := hT6.cells.2.2.2.2.2 4
      simp only at x4
      obtain ⟨hT7, hS7⟩ := hT6.setHdr 4 (.inr rfl) (S5.epoch + 1)
      rw [if_neg (by decide)] at hT7
      have hw7 : IntKind.i64.wrap ((S5.epoch : Int) + 1) = ((S5.epoch + 1 : Nat) : Int) := by rw [IntWalk.i64_in _ (by omega)]; omega
      have p0 : ∀ u, (wG.setCell ⟨tb, 4, none⟩ u).cell? ⟨nb, 0, none⟩ = some (.int .i64 (n : Int)) := fun u => by
        have hne : nb ≠ tb := by rw [← hnb]; exact hT5.ne hC5.1 hT5.wtb (by simp)
        rw [World.cell?_of_block (a := ⟨nb, 0, none⟩) (set_other wG u hne)]; exact d6.2.2
      have HFN : Hid (Tb (wG.setCell ⟨tb, 4, none⟩ (.int .i64 ((S5.epoch + 1 : Nat) : Int))) B tb mn mh mk who5 cb5 (addT S1 name 0) ∧ Stp who who5 w1 (wG.setCell ⟨tb, 4, none⟩ (.int .i64 ((S5.epoch + 1 : Nat) : Int))) ∧ n = (addT S1 name 0).last) := by
        refine ⟨?_, ((hS5.low hB5).trans hS6).trans hS7, hn⟩
        rw [← hFin]; exact hT7
      unfold Rd at d0 dC dA dB dE dF d6
      obtain ⟨en, hen⟩ : ∃ en, S5.epoch = en := ⟨_, rfl⟩
      rw [hen] at x4 hw7 HFN
      clear hT5 hC5 hS5 hT5d hC5d hT6 hS6 hT7 hS7 hFin hnm5 hcm5 hW1 hT1 hnm hog hnb hnw hB5 hn hS5e hT3 hC3 hS3 he5 hen
      go_region_held3 (fun w' => w'.cell? ⟨tb, 0, none⟩ = some (.map (some mn)) ∧ w'.cell? ⟨tb, 2, none⟩ = some (.map (some mk)) ∧ w'.cell? ⟨nb, 0, none⟩ = some (.int .i64 (n : Int))) (first | go_keep | exact d0 | exact dA | exact dC | exact dB | exact dE | exact dF | exact d6) (fail)
      all_goals
        go_wp2_with fail
        go_ret2
        exact ⟨who5, cb5, o, cap, _, L, by rw [← HFN.out.2.2]; rfl, HA.out.1, HFN.out.1, HA.out.2.1.stp HFN.out.2.1, HA.out.2.2.trans HFN.out.2.1⟩
    · rw [ptrO_some hoz]
      go_enter Tryz.func42, Tryz.ntmps42
      go_wp2_with (first | (go_at_call 45; refine TK.out.mono ?_; rintro e w1 ⟨o, cap, S1, L, rfl, hG, hT1, hI, hS⟩; have HA : Hid (AddR S name org (addT S1 name org) L ∧ IR w1 B who (.slice o L.length cap) (srtI (L.map (fun k : Nat => (k : Int)))) ∧ Stp who who w w1) := ⟨.inr ⟨n0, S1, HW.out.2.1, hG, rfl⟩, hI, hS⟩; have HT1 : Hid (Tb w1 B tb mn mh mk who cb S1 ∧ WF S1 ∧ S1.nm false name = none ∧ (org = 0 ∨ ∃ p, S1.cm org = some p) ∧ S1.last ≤ 800000 ∧ S1.epoch ≤ 800000) := ⟨hT1, hG.wf, hG.none_nm HW.out.2.1, hG.org HW.out.1 HW.out.2.1 HW.out.2.2.1, by have := hG.last; have := HW.out.2.2.2.1; omega, by have := hG.epoch; have := HW.out.2.2.2.2; omega⟩; clear hG hT1 hI hS; obtain ⟨n, nb, w2, w3, a3, af, hwr, hw2, a23, hnb2, hw3, HT3⟩ := addA (name := name) (org := org) HT1.out.1 HT1.out.2.1 HT1.out.2.2.2.2.1 HT1.out.2.2.2.1; rw [ptrO_some hoz] at hw3; obtain ⟨p, hp⟩ := (HT1.out.2.2.2.1).resolve_left hoz; obtain ⟨io, ic, pn, r4, hpl, hb3, HPN, ROW, KK⟩ := addB HT3.out.1 HT1.out.2.1 HT1.out.2.2.2.2.1 HT3.out.2.2.2.2.2 HT3.out.2.2.2.2.1 hp; have HPP := Lib.hid hp; clear hp) | (at_builtin; go_loud (refine wpList_push1 rfl (.tmp 43) (.tmp 45) 61 rfl B 60 (.pointer none) 8 Tryz.underlying61 infoP rfl (.slice io pn ic) pn _ rfl ROW.out.1 (.pointer (some ⟨nb, 0, none⟩)) _ rfl rfl rfl (by unfold maxLen; omega) (by omega) hb3 ?_); intro g c6 w6 hg6 hr6 hk6 hl6; obtain ⟨⟨u6, k6⟩, z6⟩ := KK.out w6 hk6; have H6 := Lib.hid (And.intro hr6 (And.intro hk6 hl6)); clear hg6 hr6 hk6 hl6))
      obtain ⟨hT3, hC3, hS3, hnb, hnw, hn⟩ := HT3.out
      obtain ⟨hT1, hW1, hnm, hog, hl1, he1⟩ := HT1.out
      have hS5x : ∃ who5, Tb (w6.setCell ⟨cb org, 4, none⟩ (.slice (some ⟨g, 0, none⟩) (pn + 1) c6)) B tb mn mh mk who5 (setCb cb n nb) { ({ S1 with last := n } : TS) with cm := fun k => if k = org then some { p with imp := p.imp ++ [n] } else S1.cm k } ∧ CmAt (w6.setCell ⟨cb org, 4, none⟩ (.slice (some ⟨g, 0, none⟩) (pn + 1) c6)) B who5 (setCb cb n nb) n ⟨name, false, org, []⟩ ∧ Stp who who5 w1 (w6.setCell ⟨cb org, 4, none⟩ (.slice (some ⟨g, 0, none⟩) (pn + 1) c6)) := by
        obtain ⟨hr6, hk6, hl6⟩ := H6.out
        have hcb4 := HPN.out.2
        have hlen : (p.imp ++ [n]).length = pn + 1 := by rw [List.length_append, HPN.out.1]; rfl
        have hr7 : w6.ownsRow B 60 1 (.slice (some ⟨g, 0, none⟩) (pn + 1) c6) (p.imp ++ [n]).length ((p.imp ++ [n]).map fun i => ptrC (setCb cb n nb i)) := by
          rw [hlen, List.map_append]
          have e : ([n].map fun i => ptrC (setCb cb n nb i)) = [.pointer (some ⟨nb, 0, none⟩)] := by simp only [List.map_cons, List.map_nil, hnb, ptrC]
          rw [e]; exact hr6
        have hor : n ≠ org := fun e => by rw [← e, hnw] at HPP; cases HPP.out
        have key : ∀ who5, ((Value.slice (some ⟨g, 0, none⟩) (pn + 1) c6).ownBlock = (Value.slice io pn ic).ownBlock ∧ who5 = who.set nb (4, n)) ∨ (∃ g', (Value.slice (some ⟨g, 0, none⟩) (pn + 1) c6).ownBlock = some g' ∧ w3.heap.size ≤ g' ∧ who5 = (who.set nb (4, n)).set g' (5, org)) → Tb (w6.setCell ⟨cb org, 4, none⟩ (.slice (some ⟨g, 0, none⟩) (pn + 1) c6)) B tb mn mh mk who5 (setCb cb n nb) { ({ S1 with last := n } : TS) with cm := fun k => if k = org then some { p with imp := p.imp ++ [n] } else S1.cm k } ∧ CmAt (w6.setCell ⟨cb org, 4, none⟩ (.slice (some ⟨g, 0, none⟩) (pn + 1) c6)) B who5 (setCb cb n nb) n ⟨name, false, org, []⟩ ∧ Stp who who5 w1 (w6.setCell ⟨cb org, 4, none⟩ (.slice (some ⟨g, 0, none⟩) (pn + 1) c6)) := fun who5 hg => by
          have hv : w3.cell? ⟨setCb cb n nb org, 4, none⟩ = some (.slice io pn ic) := by rw [hcb4]; exact r4
          obtain ⟨q1, q2⟩ := hT3.setImp (who' := who5) (imp' := p.imp ++ [n]) HPP.out hv hk6 hr7 hg
          rw [hcb4] at q1 q2
          have hmono : ∀ j t, who.set nb (4, n) j = some t → who5 j = some t := by
            rcases hg with ⟨_, rfl⟩ | ⟨g', _, hge, rfl⟩
            · exact fun _ _ h => h
            · exact own_set_mono (hT3.none_at hge)
          refine ⟨q1, hC3.keep ?_ (fun j hj => ?_) hmono, hS3.trans q2⟩
          · rw [hnb]
            have hne : nb ≠ cb org := by rw [← hnb, ← hcb4]; exact hT3.ne hC3.1 (hT3.cmd org p HPP.out).1 (by simp [hor])
            refine (set_other w6 _ hne).trans (hk6.block nb (by rw [← hnb]; exact (hT3.lo _ (by rw [hC3.1]; simp)).2) (fun hm => ?_))
            have h5 := ROW.out.2 nb (by simpa using hm)
            rw [Own.set_same] at h5
            simp at h5
          · have hne : j ≠ cb org := by rw [← hcb4]; exact hT3.ne hj (hT3.cmd org p HPP.out).1 (by simp)
            refine (set_other w6 _ hne).trans (hk6.block j (hT3.lo j (by rw [hj]; simp)).2 (fun hm => ?_))
            have h5 := ROW.out.2 j (by simpa using hm)
            rw [hj] at h5
            simp [hor] at h5
        rcases hl6 with hl6 | hl6
        · exact ⟨_, key _ (.inl ⟨by rw [hl6]; rfl, rfl⟩)⟩
        · exact ⟨_, key _ (.inr ⟨g, rfl, hl6, rfl⟩)⟩
      obtain ⟨who5, hT5, hC5, hS5⟩ := hS5x
      generalize hS5e : ({ ({ S1 with last := n } : TS) with cm := fun k => if k = org then some { p with imp := p.imp ++ [n] } else S1.cm k } : TS) = S5 at hT5
      have hS5e := hS5e.symm
      generalize hw5 : w6.setCell ⟨cb org, 4, none⟩ (.slice (some ⟨g, 0, none⟩) (pn + 1) c6) = w5 at hT5 hC5 hS5 ⊢
      have hFin : ({ ({ S5 with nm := fun h k => if h = false ∧ k = name then some n else S5.nm h k, cm := fun k => if k = n then some ⟨name, false, org, []⟩ else S5.cm k } : TS) with epoch := S5.epoch + 1 } : TS) = addT S1 name org := by
        rw [hS5e, hn]; unfold addT
        simp only [TS.mk.injEq, true_and, and_true]
        funext k
        by_cases e : k = S1.last + 1
        · rw [if_pos e, if_pos e]
        · rw [if_neg e, if_neg e]
          by_cases e2 : k = org
          · rw [if_pos e2, e2, HPP.out, Option.map_some, if_pos rfl]
          · rw [if_neg e2]
            cases hk : S1.cm k with
            | none => rfl
            | some d => rw [Option.map_some, if_neg e2]
      have hnm5 : S5.nm false name = none := by rw [hS5e]; exact hnm
      have hcm5 : S5.cm n = none := by
        rw [hS5e]
        have hor : n ≠ org := fun e => by rw [← e, hnw] at HPP; cases HPP.out
        simp only [if_neg hor]; exact hnw
      have he5 : S5.epoch ≤ 800000 := by rw [hS5e]; exact he1
      generalize hcb5 : setCb cb n nb = cb5 at hT5 hC5 hnb
      have hB5 : Below w5.heap.size w5 w5.drew := (Below.refl _ _).drew
      have hT5d := hT5.low hB5
      have hC5d : CmAt w5.drew B who5 cb5 n ⟨name, false, org, []⟩ := hC5
      obtain ⟨s1, s2, wA, wB, wC, wE, wF, wG, m1, m2, m12, m21, e1, e2, e3, m22, d0, dC, dA, dB, dE, dF, d6, hT6, hS6⟩ := entry_facts hT5d hC5d hnl (by omega) hnm5 hcm5 (nat_wf (by omega))
      rw [hnb] at e1 e2 e3 d0 dC dA dB dE dF d6
      have x4 := hT6.cells.2.2.2.2.1
      have xf := hT6.cells.2.2.2.2.2 4
      simp only at x4
      obtain ⟨hT7, hS7⟩ := hT6.setHdr 4 (.inr rfl) (S5.epoch + 1)
      rw [if_neg (by decide)] at hT7
      have hw7 : IntKind.i64.wrap ((S5.epoch : Int) + 1) = ((S5.epoch + 1 : Nat) : Int) := by rw [IntWalk.i64_in _ (by omega)]; omega
      have p0 : ∀ u, (wG.setCell ⟨tb, 4, none⟩ u).cell? ⟨nb, 0, none⟩ = some (.int .i64 (n : Int)) := fun u => by
        have hne : nb ≠ tb := by rw [← hnb]; exact hT5.ne hC5.1 hT5.wtb (by simp)
        rw [World.cell?_of_block (a := ⟨nb, 0, none⟩) (set_other wG u hne)]; exact d6.2.2
      have HFN : Hid (Tb (wG.setCell ⟨tb, 4, none⟩ (.int .i64 ((S5.epoch + 1 : Nat) : Int))) B tb mn mh mk who5 cb5 (addT S1 name org) ∧ Stp who who5 w1 (wG.setCell ⟨tb, 4, none⟩ (.int .i64 ((S5.epoch + 1 : Nat) : Int))) ∧ n = (addT S1 name org).last) := by
        refine ⟨?_, ((hS5.low hB5).trans hS6).trans hS7, hn⟩
        rw [← hFin]; exact hT7
      unfold Rd at d0 dC dA dB dE dF d6
      obtain ⟨en, hen⟩ : ∃ en, S5.epoch = en := ⟨_, rfl⟩
      rw [hen] at x4 hw7 HFN
      clear hT5 hC5 hS5 hT5d hC5d hT6 hS6 hT7 hS7 hFin hnm5 hcm5 hW1 hT1 hnm hog hnb hnw hB5 hn hS5e hT3 hC3 hS3 he5 hen
      go_region_held3 (fun w' => w'.cell? ⟨tb, 0, none⟩ = some (.map (some mn)) ∧ w'.cell? ⟨tb, 2, none⟩ = some (.map (some mk)) ∧ w'.cell? ⟨nb, 0, none⟩ = some (.int .i64 (n : Int))) (first | go_keep | exact d0 | exact dA | exact dC | exact dB | exact dE | exact dF | exact d6) (fail)
      all_goals
        go_wp2_with fail
        go_ret2
        exact ⟨who5, cb5, o, cap, _, L, by rw [← HFN.out.2.2]; rfl, HA.out.1, HFN.out.1, HA.out.2.1.stp HFN.out.2.1, HA.out.2.2.trans HFN.out.2.1⟩
end
end Go.Proofs.YtbbbenjakjejmaaGreat

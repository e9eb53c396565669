/- 'play' of the statements on layer 15: the questions. -/
import Derived.Test.YtcaifihdbcjakaaGreatVPlay2
import Derived.Deep.QuietTactic
namespace Go.Proofs.YtcaifihdbcjakaaGreat
set_option linter.unusedVariables false
set_option linter.unusedSimpArgs false
open Go.RowKit
variable {N : Nat}

/-- Behind the reference's Get. -/
structure YM (B : Nat) (w : World) (o : Obj) (S : St) (y row sc : Nat) (a : Int) (s : Bs) (W : World) : Prop where
  rep : Rep B W S
  bel : Below B w W
  box : W.heap[w.heap.size]? = some o
  lo : B ≤ W.heap.size
  ns : ∃ nv L, Ns B W y row sc nv L ∧ L.length ≤ 1
  st : a = 0 → ∃ d ar nm own nv kv cv K, FSt B W y row sc s d ar nm own nv kv cv K

theorem YM.keep {B : Nat} {w W W' : World} {o : Obj} {S : St} {y row sc : Nat} {a : Int} {s : Bs} (h : YM B w o S y row sc a s W) (hk : Kp [] W W') : YM B w o S y row sc a s W' := by
  obtain ⟨h1, h2, h3, h4, ⟨nv, L, h5, h6⟩, h7⟩ := h
  refine ⟨h1.kp hk (by simp), h2.trans (hk.below h4 (by simp)), (hk.block _ (Array.getElem?_eq_some_iff.1 h3).1 (by simp)).trans h3, Nat.le_trans h4 hk.size, ⟨nv, L, h5.keep hk, h6⟩, fun h0 => ?_⟩
  obtain ⟨d, ar, nm, own, nv, kv, cv, K, hf⟩ := h7 h0
  exact ⟨d, ar, nm, own, nv, kv, cv, K, hf.keep hk⟩

theorem ym_get {B : Nat} {w W w2 : World} {S : St} {y row sc : Nat} {k a b : Int} {s t : Bs} {e : Ending} (hB : B ≤ w.heap.size) (hR : Rep B w S) (hns : Ns B w y row sc nilS []) (hk : Kp [] w W) (ho : W.heap[w.heap.size]? = some (actB k a b s t)) (h : Get0 B a W y row sc s e w2) :
    (∃ (v : Bs) (c : Int), (c = 7 ∨ c = 8) ∧ e = .returned (.tuple #[.string ⟨v.toArray⟩, .int .i64 c])) ∧ YM B w (actB k a b s t) S y row sc a s w2 := by
  have hW := hns.keep hk
  have hRW := hR.kp hk (by simp)
  refine ⟨h.1, ?_⟩
  rcases h.2 with ⟨h0, hk2⟩ | ⟨h0, ⟨d, ar, nm, own, nv, kv, cv, K, hf⟩, hk2⟩
  · have hk3 := hk.trans hk2 (by simp)
    exact ⟨hR.kp hk3 (by simp), hk3.below hB (by simp), (hk2.block _ (Array.getElem?_eq_some_iff.1 ho).1 (by simp)).trans ho, Nat.le_trans hB hk3.size, ⟨_, _, hns.keep hk3, by simp⟩, fun h => absurd h h0⟩
  · have hsc : S sc = none := hRW.notX (ns_typed hW xSp xRo xSc sc (by simp))
    refine ⟨hRW.kp hk2 (by simp [hsc]), (hk.below hB (by simp)).trans (hk2.below (Nat.le_trans hB hk.size) (by simp; exact hW.lo.2.2)), (hk2.block _ (Array.getElem?_eq_some_iff.1 ho).1 (by simpa using ne_of_type ho hW.spc.sc (by decide))).trans ho, Nat.le_trans (Nat.le_trans hB hk.size) hk2.size, ⟨nv, _, hf.ns, by simp⟩, fun _ => ⟨d, ar, nm, own, nv, kv, cv, K, hf⟩⟩

theorem ym_linked {B : Nat} {w W w2 : World} {S : St} {x sm y row sc : Nat} {g : Int → Option Nat} {k a b : Int} {s t : Bs} (hp : Sp N S x sm g) (hM : YM B w (actB k a b s t) S y row sc a s W) {nv : Value} {L : List (Bs × Nat × Nat)} (hns : Ns B W y row sc nv L) {D : List Nat} (hk : Kp D W w2) (hD : ∀ d ∈ D, d ∈ sc :: nv.ownBlock.toList) :
    Hid (PlayRes N B w x sm w2) ∧ w2.heap[w.heap.size]? = some (actB k a b s t) := by
  have hT : ∀ d ∈ D, Typed NotX W d := fun d hd => ent_typed hns xSc xNm d (hD d hd)
  have hT2 : ∀ d ∈ D, Typed (· ≠ 25) W d := fun d hd => ent_typed hns (by decide) (by decide) d (hD d hd)
  refine ⟨⟨S, g, hM.rep.kp hk (fun d hd => hM.rep.notX (hT d hd)), hp.more1, hM.bel.trans (hk.below hM.lo (fun d hd => ?_))⟩, (hk.block _ (Array.getElem?_eq_some_iff.1 hM.box).1 (fun hm => ((hT2 _ hm).ne hM.box (fun h => h rfl)) rfl)).trans hM.box⟩
  have := hD d hd
  simp only [List.mem_cons, Option.mem_toList] at this
  rcases this with rfl | h
  · exact hns.lo.2.2
  · exact (ownsRow_type hns.own d h).1

theorem get_kind {S : St} {g : Int → Option Nat} {a : Int} {s : Bs} (h : (getC S g a s).2 = 7 ∨ (getC S g a s).2 = 8) : kindC S g a s = 0 := by
  unfold getC at h
  unfold kindC
  split
  · rfl
  · rename_i h0
    rw [if_neg h0] at h
    cases hc : (findC S g a s).1 with
    | none => rfl
    | some c =>
      simp only [hc] at h ⊢
      split at h
      · rcases h with h | h <;> simp at h
      · split at h
        · assumption
        · rcases h with h | h <;> simp at h
theorem box13 {w1 : World} {n : Nat} {k a b : Int} {s t : Bs} (h : w1.heap[n]? = some (actB k a b s t)) : w1.cell? ⟨n, 1, none⟩ = some (.int .i64 a) ∧ w1.cell? ⟨n, 3, none⟩ = some (.string ⟨s.toArray⟩) := by
  obtain ⟨⟨k0, k1, k2, k3, k4⟩, hl⟩ := cells5 h
  exact ⟨k1, k3⟩

set_option maxRecDepth 100000 in
set_option maxHeartbeats 6400000 in
theorem play_ask {B : Nat} {w : World} {S : St} {x sm y row sc : Nat} {g : Int → Option Nat} (hN : N ≤ 100000) (hB : B ≤ w.heap.size) (hR : Rep B w S) (hp : Sp N S x sm g) (hns : Ns B w y row sc nilS []) {k a b : Int} {s t : Bs} (hk0 : k ≠ 0) (hk1 : k ≠ 1) (hk2 : k ≠ 2) (hk3 : k ≠ 3) (hk4 : k ≠ 4) (hk5 : k ≠ 5) (ha : (Lit.int .i64 a).wf = true) (hb : (Lit.int .i64 b).wf = true) (hs : s.length ≤ 1000000) (ht : t.length ≤ 1000000) :
    Calls Tryz.prog 8 #[.pointer (some ⟨x, 0, none⟩), .pointer (some ⟨y, 0, none⟩), .agg #[.int .i64 k, .int .i64 a, .int .i64 b, .string ⟨s.toArray⟩, .string ⟨t.toArray⟩]] w fun e w' => PlayPost N B w x sm e w' := by
  have t0 : (k == 0) = false := by simpa using hk0
  have t1 : (k == 1) = false := by simpa using hk1
  have t2 : (k == 2) = false := by simpa using hk2
  have t3 : (k == 3) = false := by simpa using hk3
  have t4 : (k == 4) = false := by simpa using hk4
  have t5 : (k == 5) = false := by simpa using hk5
  have hsm : s.length ≤ maxLen := by simp [maxLen]; omega
  have HX1 : Hid (∀ W, Kp [] w W → Calls Tryz.prog 17 #[.pointer (some ⟨x, 0, none⟩), .int .i64 a, .string ⟨s.toArray⟩] W fun e w1 => (∃ (v : Bs) (c : Int), Hid (c = (getC S g a s).2) ∧ e = .returned (.tuple #[.string ⟨v.toArray⟩, .int .i64 c])) ∧ ∃ m, w1 = W.drewN m) := fun W hk =>
    (Get_any (hR.kp hk (by simp)) hp ha hsm).mono fun e w1 ⟨h1, h2⟩ => ⟨⟨_, _, rfl, h1⟩, h2⟩
  have HY1 : Hid (∀ W, Kp [] w W → W.heap[w.heap.size]? = some (actB k a b s t) → Calls Tryz.prog 28 #[.pointer (some ⟨y, 0, none⟩), .int .i64 a, .string ⟨s.toArray⟩] W fun e w1 => (∃ (v : Bs) (c : Int), (c = 7 ∨ c = 8) ∧ e = .returned (.tuple #[.string ⟨v.toArray⟩, .int .i64 c])) ∧ YM B w (actB k a b s t) S y row sc a s w1) := fun W hk ho => by
    have hW := hns.keep hk
    by_cases h0 : a = 0
    · subst h0; exact (rGet_yes (Nat.le_trans hB hk.size) hW hs).mono fun e w1 h => ym_get hB hR hns hk ho h
    · exact (rGet_no hW ha h0).mono fun e w1 h => ym_get hB hR hns hk ho h
  have HX2 : Hid (∀ W, YM B w (actB k a b s t) S y row sc a s W → Calls Tryz.prog 29 #[.pointer (some ⟨x, 0, none⟩), .int .i64 b] W fun e w1 => (∃ p q, e = .returned (.tuple #[.int .i64 p, .int .i64 q])) ∧ W = w1) := fun W hM => Scope_any hN hM.rep hp
  have HY2 : Hid (∀ W, YM B w (actB k a b s t) S y row sc a s W → Calls Tryz.prog 30 #[.pointer (some ⟨y, 0, none⟩), .int .i64 b] W fun e w1 => (∃ p q, e = .returned (.tuple #[.int .i64 p, .int .i64 q])) ∧ W = w1) := fun W hM => by
    obtain ⟨nv, L, h, _⟩ := hM.ns
    exact rScope_any h.spc hb
  have HX3 : Hid (∀ W, YM B w (actB k a b s t) S y row sc a s W → Calls Tryz.prog 13 #[.pointer (some ⟨x, 0, none⟩), .int .i64 a, .string ⟨s.toArray⟩] W fun e w1 => e = .returned (.int .i64 (kindC S g a s)) ∧ YM B w (actB k a b s t) S y row sc a s w1) := fun W hM =>
    (Kind_any hM.rep hp ha hsm).mono fun e w1 ⟨h1, m, h2⟩ => ⟨h1, by subst h2; exact hM.keep ((Kp.refl [] _).drewN m)⟩
  have HY3 : Hid (∀ W, YM B w (actB k a b s t) S y row sc a s W → Calls Tryz.prog 31 #[.pointer (some ⟨y, 0, none⟩), .int .i64 a, .string ⟨s.toArray⟩] W fun e w1 => e = .returned (.int .i64 0) ∧ YM B w (actB k a b s t) S y row sc a s w1) := fun W hM => by
    by_cases h0 : a = 0
    · obtain ⟨d, ar, nm, own, nv, kv, cv, K, hf⟩ := hM.st h0
      subst h0
      exact (rKind_yes hM.lo hf hs).mono fun e w1 ⟨h1, h2⟩ => ⟨h1, hM.keep h2⟩
    · obtain ⟨nv, L, h, _⟩ := hM.ns
      exact (rKind_no h.spc ha h0).mono fun e w1 ⟨h1, h2⟩ => ⟨h1, hM.keep h2⟩
  have HX4 : Hid (∀ W, YM B w (actB k a b s t) S y row sc a s W → Calls Tryz.prog 32 #[.pointer (some ⟨x, 0, none⟩), .int .i64 a, .string ⟨s.toArray⟩] W fun e w1 => (∃ l, e = .returned (.bool l)) ∧ W = w1) := fun W hM =>
    (Linked_any hM.rep hp ha hsm).mono fun e w1 ⟨h1, h2⟩ => ⟨⟨_, h1⟩, h2⟩
  have HY4 : Hid (∀ W, YM B w (actB k a b s t) S y row sc a s W → Calls Tryz.prog 33 #[.pointer (some ⟨y, 0, none⟩), .int .i64 a, .string ⟨s.toArray⟩] W fun e w1 => (∃ l, e = .returned (.bool l)) ∧ Hid (PlayRes N B w x sm w1) ∧ w1.heap[w.heap.size]? = some (actB k a b s t)) := fun W hM => by
    obtain ⟨nv, L, h, hL⟩ := hM.ns
    by_cases h0 : a = 0
    · subst h0
      exact (rLinked_yes hM.lo h (by omega)).mono fun e w1 ⟨h1, h2⟩ => ⟨h1, ym_linked hp hM h h2 (fun d hd => hd)⟩
    · exact (rLinked_no h.spc ha h0).mono fun e w1 ⟨h1, h2⟩ => ⟨h1, ym_linked hp hM h h2 (by simp)⟩
  have HEND : Hid (∀ W, YM B w (actB k a b s t) S y row sc a s W → PlayRes N B w x sm W) := fun W hM => ⟨S, g, hM.rep, hp.more1, hM.bel⟩
  clear hR hp hns hk0 hk1 hk2 hk3 hk4 hk5
  go_enter Tryz.func8, Tryz.ntmps8
  go_wp2_with (first | (go_at_call 17; refine (HX1.out _ (by exact (Kp.refl [] w).alloc _)).mono ?_; rintro e w1 ⟨⟨v, c, HC1, rfl⟩, m1, rfl⟩) | (go_at_call 28; refine (HY1.out _ (by exact ((Kp.refl [] w).alloc _).drewN m1) (by exact keep_drewN (heap_alloc_new w _) m1)).mono ?_; rintro e w2 ⟨⟨v2, c2, hc2, rfl⟩, hM⟩; have HC2 := Lib.hid hc2; clear hc2; obtain ⟨⟨k0, k1, k2, k3, k4⟩, hl⟩ := cells5 hM.box; have HM := Lib.hid hM; clear hM) | (go_at_call 29; refine (HX2.out _ HM.out).mono ?_; rintro e w3 ⟨⟨p, q, rfl⟩, rfl⟩) | (go_at_call 30; refine (HY2.out _ HM.out).mono ?_; rintro e w4 ⟨⟨p2, q2, rfl⟩, rfl⟩))
  by_cases e1 : v = v2
  · subst e1
    have b1 : (v == v) = true := by simp
    by_cases e2 : c = c2
    · subst e2
      have b2 : (c == c) = true := by simp
      by_cases e3 : p = p2
      · subst e3
        have b3 : (p == p) = true := by simp
        by_cases e4 : q = q2
        · subst e4
          have b4 : (q == q) = true := by simp
          have e5 : kindC S g a s = 0 := get_kind (by rw [← HC1.out]; exact HC2.out)
          · have HX3b : Hid (∀ W, YM B w (actB k a b s t) S y row sc a s W → Calls Tryz.prog 13 #[.pointer (some ⟨x, 0, none⟩), .int .i64 a, .string ⟨s.toArray⟩] W fun e w1 => e = .returned (.int .i64 0) ∧ YM B w (actB k a b s t) S y row sc a s w1) := fun W hM => by
              have := HX3.out W hM
              rwa [e5] at this
            clear HX3 e5
            go_region_held3 (fun w' => w'.cell? ⟨w.heap.size, 1, none⟩ = some (.int .i64 a) ∧ w'.cell? ⟨w.heap.size, 3, none⟩ = some (.string ⟨s.toArray⟩)) (first | go_keep | (first | exact CD | exact CB | exact CA)) ((first | (go_at_call 13; refine (HX3b.out _ (by exact HM.out.keep (Kp.refl [] _).drew)).mono ?_; rintro e w5 ⟨rfl, hM5⟩; have CA := box13 hM5.box; have HM5 := Lib.hid hM5; clear hM5) | (go_at_call 31; refine (HY3.out _ HM5.out).mono ?_; rintro e w6 ⟨rfl, hM6⟩; have CB := box13 hM6.box; have HM6 := Lib.hid hM6; clear hM6) | (go_at_call 32; refine (HX4.out _ HM6.out).mono ?_; rintro e w7 ⟨⟨l1, rfl⟩, rfl⟩) | (go_at_call 33; refine (HY4.out _ HM6.out).mono ?_; rintro e w8 ⟨⟨l2, rfl⟩, HP, hbx⟩; have CD := box13 hbx; clear hbx)))
            go_wp2_with fail
            go_ret
            exact ⟨⟨_, rfl⟩, HP.out⟩
        · have b4 : (q == q2) = false := by simpa using e4
          clear e4
          go_quiet (fail)
          go_wp2_with fail
          go_ret
          exact ⟨⟨_, rfl⟩, HEND.out _ (HM.out.keep ((Kp.refl [] _).drewN _))⟩
      · have b3 : (p == p2) = false := by simpa using e3
        clear e3
        go_quiet (fail)
        go_wp2_with fail
        go_ret
        exact ⟨⟨_, rfl⟩, HEND.out _ (HM.out.keep ((Kp.refl [] _).drewN _))⟩
    · have b2 : (c == c2) = false := by simpa using e2
      clear e2
      go_quiet (fail)
      go_wp2_with fail
      go_ret
      exact ⟨⟨_, rfl⟩, HEND.out _ (HM.out.keep ((Kp.refl [] _).drewN _))⟩
  · have b1 : (v == v2) = false := by simpa using e1
    clear e1
    go_quiet (fail)
    go_wp2_with fail
    go_ret
    exact ⟨⟨_, rfl⟩, HEND.out _ (HM.out.keep ((Kp.refl [] _).drewN _))⟩
end Go.Proofs.YtcaifihdbcjakaaGreat

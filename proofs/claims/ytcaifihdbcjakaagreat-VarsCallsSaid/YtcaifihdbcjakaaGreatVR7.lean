/- The reference's space, just made: what Find tells, then Take, Put, Drop. -/
import Derived.Test.YtcaifihdbcjakaaGreatVR6
namespace Go.Proofs.YtcaifihdbcjakaaGreat
set_option linter.unusedVariables false
set_option linter.unusedSimpArgs false
open Go.RowKit

/-- A word's name was asked for: it stands alone in the scope, not set; its element as well. -/
structure FSt (B : Nat) (w : World) (y row sc : Nat) (word : Bs) (d : Nat) (ar : Option Nat) (nm own : Nat) (nv kv cv : Value) (K : List (Bs × Nat)) : Prop where
  ns : Ns B w y row sc nv [((splitC word).1, nm, own)]
  cel : Cel B w own kv cv (.pointer none) K
  kind : (splitC word).2.2 = false ∧ K = [] ∧ d = own ∧ ar = none ∨ (splitC word).2.2 = true ∧ K = [((splitC word).2.1, d)] ∧ ar = some own

/-- A list of types that a scope's parts do not have. -/
def NotNs (t : TypeId) : Prop := t ≠ 63 ∧ t ≠ 57 ∧ t ≠ 60 ∧ t ≠ 104 ∧ t ≠ 103
def NotCel (t : TypeId) : Prop := t ≠ 99 ∧ t ≠ 9 ∧ t ≠ 88
def Typed (T : TypeId → Prop) (w : World) (d : Nat) : Prop := ∃ (cur : Array Value) (t : TypeId), w.heap[d]? = some (Obj.cells cur t (0, 0)) ∧ T t

theorem Typed.ne {T : TypeId → Prop} {w : World} {d b : Nat} (h : Typed T w d) {cur : Array Value} {t : TypeId} (hb : w.heap[b]? = some (Obj.cells cur t (0, 0))) (ht : ¬ T t) : b ≠ d := by
  rintro rfl
  obtain ⟨cur', t', h1, h2⟩ := h
  rw [hb] at h1; simp at h1
  exact ht (h1.2 ▸ h2)

theorem Ns.keepT {B : Nat} {w w' : World} {y row sc : Nat} {nv : Value} {L : List (Bs × Nat × Nat)} (h : Ns B w y row sc nv L) {D : List Nat} (hk : Kp D w w') (hD : ∀ d ∈ D, Typed NotNs w d) : Ns B w' y row sc nv L := by
  refine ⟨h.spc.keep hk (fun hm => ?_) (fun hm => ?_) (fun hm => ?_), h.lo, ownsRow_kp h.own hk (fun b hb hm => ?_), fun t ht => (hk.block _ (Array.getElem?_eq_some_iff.1 (h.nm t ht)).1 (fun hm => ?_)).trans (h.nm t ht)⟩
  · exact (hD _ hm).ne h.spc.sp (fun x => x.1 rfl) rfl
  · exact (hD _ hm).ne h.spc.ro (fun x => x.2.1 rfl) rfl
  · exact (hD _ hm).ne h.spc.sc (fun x => x.2.2.1 rfl) rfl
  · obtain ⟨_, cur, hc⟩ := ownsRow_type h.own b hb; exact (hD _ hm).ne hc (fun x => x.2.2.2.1 rfl) rfl
  · exact (hD _ hm).ne (h.nm t ht) (fun x => x.2.2.2.2 rfl) rfl
theorem Cel.keepT {B : Nat} {w w' : World} {c : Nat} {kv cv ofv : Value} {K : List (Bs × Nat)} (h : Cel B w c kv cv ofv K) {D : List Nat} (hk : Kp D w w') (hD : ∀ d ∈ D, Typed NotCel w d) : Cel B w' c kv cv ofv K := by
  refine h.keep hk (fun hm => ?_) (fun b hb hm => ?_) (fun b hb hm => ?_) (fun t ht hm => ?_)
  · exact (hD _ hm).ne h.blk (fun x => x.1 rfl) rfl
  · obtain ⟨_, cur, hc⟩ := ownsRow_type h.ko b hb; exact (hD _ hm).ne hc (fun x => x.2.1 rfl) rfl
  · obtain ⟨_, cur, hc⟩ := ownsRow_type h.co b hb; exact (hD _ hm).ne hc (fun x => x.2.2 rfl) rfl
  · exact (hD _ hm).ne (h.el t ht) (fun x => x.1 rfl) rfl

theorem FSt.keep {B : Nat} {w w' : World} {y row sc : Nat} {word : Bs} {d : Nat} {ar : Option Nat} {nm own : Nat} {nv kv cv : Value} {K : List (Bs × Nat)} (h : FSt B w y row sc word d ar nm own nv kv cv K) (hk : Kp [] w w') : FSt B w' y row sc word d ar nm own nv kv cv K :=
  ⟨h.ns.keep hk, cel_after h.cel hk, h.kind⟩

theorem ent_typed {B : Nat} {w : World} {y row sc : Nat} {nv : Value} {L : List (Bs × Nat × Nat)} (h : Ns B w y row sc nv L) {T : TypeId → Prop} (h1 : T 60) (h2 : T 104) : ∀ d ∈ sc :: nv.ownBlock.toList, Typed T w d := by
  intro d hd
  simp only [List.mem_cons, Option.mem_toList] at hd
  rcases hd with rfl | hd
  · exact ⟨_, _, h.spc.sc, h1⟩
  · obtain ⟨_, cur, hc⟩ := ownsRow_type h.own d hd; exact ⟨_, _, hc, h2⟩
theorem cel_typed {B : Nat} {w : World} {c : Nat} {kv cv ofv : Value} {K : List (Bs × Nat)} (h : Cel B w c kv cv ofv K) {T : TypeId → Prop} (h1 : T 99) (h2 : T 9) (h3 : T 88) : ∀ d ∈ c :: kv.ownBlock.toList ++ cv.ownBlock.toList, Typed T w d := by
  intro d hd
  simp only [List.cons_append, List.mem_cons, List.mem_append, Option.mem_toList] at hd
  rcases hd with rfl | hd | hd
  · exact ⟨_, _, h.blk, h1⟩
  · obtain ⟨_, cur, hc⟩ := ownsRow_type h.ko d hd; exact ⟨_, _, hc, h2⟩
  · obtain ⟨_, cur, hc⟩ := ownsRow_type h.co d hd; exact ⟨_, _, hc, h3⟩
theorem Typed.notF {T : TypeId → Prop} {w : World} {d : Nat} (h : Typed T w d) (hT : ¬ T TF) : ∀ cur : Array Value, w.heap[d]? ≠ some (Obj.cells cur TF (0, 0)) := by
  intro cur hc
  exact h.ne hc hT rfl

/-- What 'Find' gives on a space just made. -/
def Find0 (B : Nat) (w : World) (y row sc : Nat) (word : Bs) (e : Ending) (w' : World) : Prop :=
  ∃ d ar nm own nv kv cv K, e = .returned (.tuple #[fndV d (splitC word).2.2 ar, .int .i64 0]) ∧ FSt B w' y row sc word d ar nm own nv kv cv K ∧ Kp [sc] w w' ∧ w.heap.size ≤ d ∧ ∀ a, ar = some a → w.heap.size ≤ a

theorem wroteF_kp {n : Nat} {w w1 w' : World} {D : List Nat} (hk : Kp D w w1) (h : WroteF n w1 w') (hn : w.heap.size ≤ n) : Kp D w w' := by
  obtain ⟨D', hD, hk'⟩ := h
  exact hk.trans hk' (fun d hd => .inr (Nat.le_trans hn (hD d hd).1))
theorem wroteF_typed {n : Nat} {w w' : World} {T : TypeId → Prop} (h : WroteF n w w') (hT : T TF) : ∃ D, (∀ d ∈ D, Typed T w d) ∧ Kp D w w' := by
  obtain ⟨D', hD, hk'⟩ := h
  exact ⟨D', fun d hd => by obtain ⟨_, cur, hc⟩ := hD d hd; exact ⟨cur, _, hc, hT⟩, hk'⟩

theorem nsF : NotNs TF := ⟨by decide, by decide, by decide, by decide, by decide⟩
theorem celF : NotCel TF := ⟨by decide, by decide, by decide⟩
theorem celS : NotCel 60 := ⟨by decide, by decide, by decide⟩
theorem celN : NotCel 104 := ⟨by decide, by decide, by decide⟩
theorem nsC : NotNs 99 := ⟨by decide, by decide, by decide, by decide, by decide⟩
theorem nsStr : NotNs 9 := ⟨by decide, by decide, by decide, by decide, by decide⟩
theorem nsPC : NotNs 88 := ⟨by decide, by decide, by decide, by decide, by decide⟩

theorem rFind0 {B : Nat} {w : World} {y row sc : Nat} (hB : B ≤ w.heap.size) (h : Ns B w y row sc nilS []) {word : Bs} (hw : word.length ≤ 1000000) :
    Calls Tryz.prog 52 #[.pointer (some ⟨y, 0, none⟩), .int .i64 0, .string ⟨word.toArray⟩] w fun e w' => Find0 B w y row sc word e w' := by
  obtain ⟨q, hq⟩ : ∃ q, splitC word = q := ⟨_, rfl⟩
  obtain ⟨s1, s2, el⟩ := q
  have hE : ∀ W, Kp [] w W → Calls Tryz.prog 59 #[.pointer (some ⟨sc, 0, none⟩), .string ⟨s1.toArray⟩] W fun e w1 => FEnt (fun W w1 own => ∃ nm nv, Ns B w1 y row sc nv [(s1, nm, own)] ∧ w1.heap[own]? = some (clB nilS nilS (.pointer none)) ∧ B ≤ own ∧ W.heap.size ≤ own ∧ Kp [sc] W w1) s1 W e w1 := by
    intro W hk
    refine (entry_any (Nat.le_trans hB hk.size) (h.keep hk) (by simp)).mono ?_
    rintro e w1 ⟨nm, own, nv', L', rfl, hns, hkp, ⟨hm, _⟩ | ⟨_, rfl, hc, h1, h2, _⟩⟩
    · simp at hm
    · simp only [List.nil_append] at hns
      exact ⟨nm, own, rfl, hns.nm (s1, nm, own) (by simp), keepF_of_kp hkp (fun d hd => (ent_typed (T := (· ≠ TF)) (h.keep hk) (by decide) (by decide) d hd).notF (fun hx => hx rfl)), hkp.size, nm, nv', hns, hc, Nat.le_trans (Nat.le_trans hB hk.size) h2, h2, by simpa [Value.ownBlock] using hkp⟩
  have hI : ∀ W w1 w2 own, (∃ nm nv, Ns B w1 y row sc nv [(s1, nm, own)] ∧ w1.heap[own]? = some (clB nilS nilS (.pointer none)) ∧ B ≤ own ∧ W.heap.size ≤ own ∧ Kp [sc] W w1) → Kp [] w1 w2 →
      Calls Tryz.prog 77 #[fndV own false none, .string ⟨s2.toArray⟩] w2 fun e w3 => FInn (fun w2 w3 own d => ∃ kv cv, Cel B w3 own kv cv (.pointer none) [(s2, d)] ∧ Kp [own] w2 w3 ∧ Typed NotNs w2 own ∧ w2.heap.size ≤ d) own w2 e w3 := by
    rintro W w1 w2 own ⟨nm, nv, hns, hc, hBo, _, hkp⟩ hk
    have hc2 := cel_after (Cel.fresh (B := B) hc hBo) hk
    refine (inner_any (Nat.le_trans hBo (Nat.le_of_lt (Array.getElem?_eq_some_iff.1 hc2.blk).1)) hc2 (by simp)).mono ?_
    rintro e w3 ⟨d, kv', cv', K', rfl, hc3, hkp3, hm, ⟨hm2, _⟩ | ⟨rfl, _, hds⟩⟩
    · simp at hm2
    · exact ⟨d, rfl, keepF_of_kp hkp3 (fun d hd => (cel_typed (T := (· ≠ TF)) hc2 (by decide) (by decide) (by decide) d hd).notF (fun hx => hx rfl)), hkp3.size, kv', cv', hc3, by simpa [Value.ownBlock] using hkp3, ⟨_, _, hc2.blk, nsC⟩, hds⟩
  cases el with
  | false =>
    refine (rFind_plain h.spc hw hq hE).mono ?_
    rintro e w' ⟨W, w1, own, hk, ⟨nm, nv, hns, hc, hBo, hWo, hkp⟩, rfl, hwf⟩
    obtain ⟨D, hD, hkD⟩ := wroteF_typed (T := NotNs) hwf nsF
    obtain ⟨D', hD', hkD'⟩ := wroteF_typed (T := NotCel) hwf celF
    refine ⟨own, none, nm, own, nv, nilS, nilS, [], by rw [hq], ⟨by rw [hq]; exact hns.keepT hkD hD, (Cel.fresh hc hBo).keepT hkD' hD', .inl ⟨by rw [hq], rfl, rfl, rfl⟩⟩, wroteF_kp ((hk.mono (by simp)).trans hkp (by simp)) hwf (Nat.le_refl _), Nat.le_trans hk.size hWo, fun a ha => by cases ha⟩
  | true =>
    refine (rFind_el h.spc hw hq hE hI).mono ?_
    rintro e w' ⟨W, w1, own, w2, w3, d, hk, ⟨nm, nv, hns, hc, hBo, hWo, hkp⟩, hk2, ⟨kv, cv, hc3, hkp3, ht3, hds⟩, rfl, hwf⟩
    obtain ⟨D, hD, hkD⟩ := wroteF_typed (T := NotNs) hwf nsF
    obtain ⟨D', hD', hkD'⟩ := wroteF_typed (T := NotCel) hwf celF
    have hn3 : Ns B w3 y row sc nv [(s1, nm, own)] := (hns.keep hk2).keepT hkp3 (by simpa using ht3)
    refine ⟨d, some own, nm, own, nv, kv, cv, [(s2, d)], by rw [hq], ⟨by rw [hq]; exact hn3.keepT hkD hD, hc3.keepT hkD' hD', .inr ⟨by rw [hq], by rw [hq], rfl⟩⟩, ?_, Nat.le_trans (Nat.le_trans (Nat.le_trans hk.size hkp.size) hk2.size) hds, fun a ha => by cases ha; exact Nat.le_trans hk.size hWo⟩
    have h3 : Kp [sc] w w3 := (((hk.mono (by simp)).trans hkp (by simp)).trans hk2 (by simp)).trans hkp3 (by simp; right; exact Nat.le_trans hk.size hWo)
    exact wroteF_kp h3 hwf (Nat.le_refl _)

theorem rFind1 {B : Nat} {w : World} {y row sc : Nat} {word : Bs} {d : Nat} {ar : Option Nat} {nm own : Nat} {nv kv cv : Value} {K : List (Bs × Nat)} (hB : B ≤ w.heap.size) (h : FSt B w y row sc word d ar nm own nv kv cv K) (hw : word.length ≤ 1000000) :
    Calls Tryz.prog 52 #[.pointer (some ⟨y, 0, none⟩), .int .i64 0, .string ⟨word.toArray⟩] w fun e w' => e = .returned (.tuple #[fndV d (splitC word).2.2 ar, .int .i64 0]) ∧ Kp [] w w' := by
  obtain ⟨q, hq⟩ : ∃ q, splitC word = q := ⟨_, rfl⟩
  obtain ⟨hns0, hcel0, hkind⟩ := h
  rw [hq] at hns0 hkind ⊢
  obtain ⟨s1, s2, el⟩ := q
  simp only at hns0 hkind ⊢
  have hE : ∀ W, Kp [] w W → Calls Tryz.prog 59 #[.pointer (some ⟨sc, 0, none⟩), .string ⟨s1.toArray⟩] W fun e w1 => FEnt (fun W w1 own' => own' = own ∧ w1 = W ∧ Kp [] w W) s1 W e w1 := by
    intro W hk
    refine (entry_any (Nat.le_trans hB hk.size) (hns0.keep hk) (by simp)).mono ?_
    rintro e w1 ⟨nm', own', nv', L', rfl, hns, hkp, ⟨hm, rfl, rfl⟩ | ⟨hno, _⟩⟩
    · simp only [List.mem_singleton, Prod.mk.injEq, true_and] at hm
      obtain ⟨rfl, rfl⟩ := hm
      exact ⟨nm', own', rfl, hns.nm (s1, nm', own') (by simp), fun _ _ h => h, Nat.le_refl _, rfl, rfl, hk⟩
    · exact absurd rfl (hno (s1, nm, own) (by simp))
  cases el with
  | false =>
    refine (rFind_plain hns0.spc hw hq hE).mono ?_
    rintro e w' ⟨W, w1, own', hk, ⟨rfl, rfl, _⟩, rfl, hwf⟩
    obtain ⟨_, _, rfl, rfl⟩ | ⟨hf, _⟩ := hkind
    · exact ⟨rfl, wroteF_kp hk hwf (Nat.le_refl _)⟩
    · cases hf
  | true =>
    obtain ⟨hf, _⟩ | ⟨_, rfl, rfl⟩ := hkind
    · cases hf
    have hI : ∀ W w1 w2 own', (own' = own ∧ w1 = W ∧ Kp [] w W) → Kp [] w1 w2 →
        Calls Tryz.prog 77 #[fndV own' false none, .string ⟨s2.toArray⟩] w2 fun e w3 => FInn (fun w2 w3 own' d' => d' = d ∧ Kp [] w2 w3) own' w2 e w3 := by
      rintro W w1 w2 own' ⟨rfl, rfl, hk⟩ hk2
      have hc2 := cel_after (cel_after hcel0 hk) hk2
      refine (inner_any (Nat.le_trans hB (Nat.le_trans hk.size hk2.size)) hc2 (by simp)).mono ?_
      rintro e w3 ⟨d', kv', cv', K', rfl, hc3, hkp3, hm, ⟨hm2, _, _, _, hk3⟩ | ⟨_, hno, _⟩⟩
      · simp only [List.mem_singleton, Prod.mk.injEq, true_and] at hm2
        exact ⟨d', rfl, keepF_of_kp hk3 (by simp), hk3.size, hm2, hk3⟩
      · exact absurd rfl (hno (s2, d) (by simp))
    refine (rFind_el hns0.spc hw hq hE hI).mono ?_
    rintro e w' ⟨W, w1, own', w2, w3, d', hk, ⟨rfl, rfl, _⟩, hk2, ⟨rfl, hk3⟩, rfl, hwf⟩
    exact ⟨rfl, wroteF_kp ((hk.trans hk2 (by simp)).trans hk3 (by simp)) hwf (Nat.le_refl _)⟩
end Go.Proofs.YtcaifihdbcjakaaGreat

/- What 'TableNames' asks of a table: each name is that of its command. -/
import Derived.Test.YtbbbenjakjejmaaTbMet
namespace Go.Proofs.Ytbbbenjakjejmaa
set_option linter.unusedVariables false
set_option linter.unusedSimpArgs false
open Go.RowKit Go.MapKept Go.WideMaps
/-- What is marked already. -/
def Seen (S : TS) (hid : Bool) (ss : List Bs) (k n : Nat) : Prop := ∃ j x, j < k ∧ ss[j]? = some x ∧ S.nm hid x = some n
theorem two_kinds {S : TS} (hW : WF S) {x y : Bs} {n : Nat} (h1 : S.nm false x = some n) (h2 : S.nm true y = some n) : False := by
  obtain ⟨c, hc, _, a⟩ := (hW.names _ _ _).1 h1
  obtain ⟨d, hd, _, b⟩ := (hW.names _ _ _).1 h2
  rw [hc] at hd
  cases hd
  rw [a] at b
  cases b
theorem row_fact {S : TS} (hW : WF S) (hl : S.last ≤ 60) {hid : Bool} {ks : List Bs} (hN : Nms S hid ks) {i : Nat} {x : Bs} (hi : (srt ks)[i]? = some x) :
    ∃ n c, S.nm hid x = some n ∧ S.num (n : Int) = some n ∧ S.cm n = some c ∧ c.name = x ∧ c.hid = hid ∧ 1 ≤ n ∧ n ≤ 60 ∧ x.length ≤ 100000 ∧ ¬ Seen S hid (srt ks) i n ∧ (∀ m, m = n ∨ Seen S hid (srt ks) i m → Seen S hid (srt ks) (i + 1) m) := by
  have hx : x ∈ ks := (srt_perm ks).mem_iff.1 (List.mem_of_getElem? hi)
  have hnd : (srt ks).Nodup := (srt_perm ks).nodup_iff.2 hN.nodup
  obtain ⟨n, hn⟩ := Option.isSome_iff_exists.1 ((hN.mem x).1 hx)
  obtain ⟨c, hc, h1, h2⟩ := (hW.names _ _ _).1 hn
  have hp := hW.pos n c hc
  refine ⟨n, c, hn, by simp [TS.num, hc], hc, h1, h2, hp.1, by omega, hN.len hW x hx, ?_, ?_⟩
  · rintro ⟨j, y, hj, hy, hm⟩
    obtain ⟨d, hd, h3, _⟩ := (hW.names _ _ _).1 hm
    rw [hc] at hd
    cases hd
    have e : x = y := h1.symm.trans h3
    subst e
    obtain ⟨hi', e1⟩ := List.getElem?_eq_some_iff.1 hi
    obtain ⟨hj', e2⟩ := List.getElem?_eq_some_iff.1 hy
    have := (List.getElem_inj hnd).1 (e1.trans e2.symm)
    omega
  · rintro m (rfl | ⟨j, y, hj, hy, hm⟩)
    · exact ⟨i, x, by omega, hi, hn⟩
    · exact ⟨j, y, by omega, hy, hm⟩
section
variable {B tb mn mh mk : Nat} {who : Own} {cb : Nat → Nat} {w1 W : World} {S : TS}
theorem AtS.hiddens (h : AtS B tb mn mh mk who cb w1 W S) (hW : WF S) (hl : S.last ≤ 900000) {S0 : TS} {ks : List Bs} (hN : Nms S0 true ks) (he : ∀ k, S.nm true k = S0.nm true k) : Calls Try.prog 24 #[.pointer (some ⟨tb, 0, none⟩), .string ⟨#[42]⟩] W fun e w' => ∃ o c, e = .returned (.slice o ks.length c) ∧ TxtRow w' (.slice o ks.length c) (srt ks) ∧ AtS B tb mn mh mk who cb w1 w' S ∧ Below W.heap.size W w' ∧ ∀ a, o = some a → W.heap.size ≤ a.block := by
  obtain ⟨ks', hN', hc⟩ := Hidden_any h.1 hW hl [42] (by decide)
  have hp := hN.perm hN' he
  rw [all_star, hp.length_eq, srt_of_perm hp] at hc
  refine hc.mono ?_
  rintro e w' ⟨o, c, rfl, hr, hb⟩
  refine ⟨o, c, rfl, TxtRow.of_owns (base := W.heap.size) (by rw [srt_len]; exact hr), h.low hb, hb, fun a ha => ?_⟩
  subst ha
  exact (row_ids hr a.block rfl).1
/-- A table as it is now, and nothing of before w0 changed. -/
def CurT (B tb mn mh mk : Nat) (who : Own) (cb : Nat → Nat) (S : TS) (w0 W : World) : Prop := Tb W B tb mn mh mk who cb S ∧ Below w0.heap.size w0 W
variable {w0 : World}
theorem CurT.low (h : CurT B tb mn mh mk who cb S w0 W) (hB : w0.heap.size ≤ W.heap.size) {w' : World} (hb : Below W.heap.size W w') : CurT B tb mn mh mk who cb S w0 w' := ⟨h.1.low hb, h.2.trans (hb.mono hB)⟩
theorem CurT.names (h : CurT B tb mn mh mk who cb S w0 W) (hW : WF S) (hl : S.last ≤ 900000) {ks : List Bs} (hN : Nms S false ks) {kn : Nat} (hk : ks.length = kn) : Calls Try.prog 16 #[.pointer (some ⟨tb, 0, none⟩), .string ⟨#[42]⟩] W fun e w' => ∃ o c, e = .returned (.slice o kn c) ∧ TxtRow w' (.slice o kn c) (srt ks) ∧ CurT B tb mn mh mk who cb S w0 w' ∧ Below W.heap.size W w' ∧ ∀ a, o = some a → W.heap.size ≤ a.block := by
  subst hk
  exact (AtS.names (w1 := W) ⟨h.1, Stp.refl _ _⟩ hW hl hN (fun _ => rfl)).mono fun e w' ⟨o, c, he, hr, hA, hB, hn⟩ => ⟨o, c, he, hr, h.low h.2.size hB, hB, hn⟩
theorem CurT.hiddens (h : CurT B tb mn mh mk who cb S w0 W) (hW : WF S) (hl : S.last ≤ 900000) {ks : List Bs} (hN : Nms S true ks) {kn : Nat} (hk : ks.length = kn) : Calls Try.prog 24 #[.pointer (some ⟨tb, 0, none⟩), .string ⟨#[42]⟩] W fun e w' => ∃ o c, e = .returned (.slice o kn c) ∧ TxtRow w' (.slice o kn c) (srt ks) ∧ CurT B tb mn mh mk who cb S w0 w' ∧ Below W.heap.size W w' ∧ ∀ a, o = some a → W.heap.size ≤ a.block := by
  subst hk
  exact (AtS.hiddens (w1 := W) ⟨h.1, Stp.refl _ _⟩ hW hl hN (fun _ => rfl)).mono fun e w' ⟨o, c, he, hr, hA, hB, hn⟩ => ⟨o, c, he, hr, h.low h.2.size hB, hB, hn⟩
theorem CurT.count (h : CurT B tb mn mh mk who cb S w0 W) (hW : WF S) {cn : Nat} (hc : S.cnt = cn) : Calls Try.prog 11 #[.pointer (some ⟨tb, 0, none⟩)] W fun e w' => e = .returned (.int .i64 (cn : Int)) ∧ W = w' := by
  subst hc
  exact Count_any h.1 hW
theorem CurT.find (h : CurT B tb mn mh mk who cb S w0 W) (hW : WF S) (k : Bs) (hk : k.length ≤ 100000) {n : Nat} (hn : S.nm false k = some n) : Calls Try.prog 18 #[.pointer (some ⟨tb, 0, none⟩), .string ⟨k.toArray⟩] W fun e w' => e = .returned (.int .i64 (n : Int)) ∧ Below W.heap.size W w' := by
  have := Find_any h.1 hW k hk
  rw [hn] at this
  exact this.mono fun e w' ⟨he, hb⟩ => ⟨he, hb⟩
theorem CurT.findHidden (h : CurT B tb mn mh mk who cb S w0 W) (hW : WF S) (k : Bs) (hk : k.length ≤ 100000) {n : Nat} (hn : S.nm true k = some n) : Calls Try.prog 21 #[.pointer (some ⟨tb, 0, none⟩), .string ⟨k.toArray⟩] W fun e w' => e = .returned (.int .i64 (n : Int)) ∧ Below W.heap.size W w' := by
  have := FindHidden_any h.1 hW k hk
  rw [hn] at this
  exact this.mono fun e w' ⟨he, hb⟩ => ⟨he, hb⟩
theorem CurT.name (h : CurT B tb mn mh mk who cb S w0 W) {n : Nat} (hl : n ≤ 60) {k : Bs} {hid : Bool} {c : Cm} (hn : S.num (n : Int) = some n) (hc : S.cm n = some c) (h1 : c.name = k) (h2 : c.hid = hid) : Calls Try.prog 13 #[.pointer (some ⟨tb, 0, none⟩), .int .i64 (n : Int)] W fun e w' => e = .returned (.tuple #[.string ⟨k.toArray⟩, .bool hid, .bool true]) ∧ Below W.heap.size W w' := by
  subst h1 h2
  exact Name_some h.1 (nat_wf (by omega)) hn hc
/-- With marks. -/
theorem MR.cur {W1 W2 : World} {g : Nat} {P : Nat → Prop} (h : MR W1 W2 g P) (hT : CurT B tb mn mh mk who cb S w0 W1) (hg : who g = none) (hB : w0.heap.size ≤ g) : CurT B tb mn mh mk who cb S w0 W2 := ⟨h.tb hT.1 hg, hT.2.trans (h.below hB)⟩
theorem MR.row {W1 W2 : World} {g : Nat} {P : Nat → Prop} (h : MR W1 W2 g P) {o : Option Addr} {n c : Nat} {ss : List Bs} (hr : TxtRow W1 (.slice o n c) ss) (ho : ∀ a, o = some a → g < a.block) : TxtRow W2 (.slice o n c) ss :=
  hr.fr (fun a ha => wg_no (by have := ho a ha; omega)) h.stp.fr
end
end Go.Proofs.Ytbbbenjakjejmaa

/- 'play' of the statements on layer 15, for any act; what Set and Link leave. -/
import Derived.Test.YtcaifihdbcjakaaGreatVLight
namespace Go.Proofs.YtcaifihdbcjakaaGreat
set_option linter.unusedVariables false
set_option linter.unusedSimpArgs false
open Go.RowKit
variable {N : Nat}

theorem play_any {B : Nat} {w : World} {S : St} {x sm y row sc : Nat} {g : Int → Option Nat} (hN : N ≤ 100000) (hB : B ≤ w.heap.size) (hR : Rep B w S) (hp : Sp N S x sm g) (hns : Ns B w y row sc nilS []) {k a b : Int} {s t : Bs} (ha : (Lit.int .i64 a).wf = true) (hb : (Lit.int .i64 b).wf = true) (hs : s.length ≤ 1000000) (ht : t.length ≤ 1000000) :
    Calls Tryz.prog 8 #[.pointer (some ⟨x, 0, none⟩), .pointer (some ⟨y, 0, none⟩), .agg #[.int .i64 k, .int .i64 a, .int .i64 b, .string ⟨s.toArray⟩, .string ⟨t.toArray⟩]] w fun e w' => PlayPost N B w x sm e w' := by
  by_cases h0 : k = 0
  · subst h0; exact play_push hN hB hR hp hns a b s t
  by_cases h1 : k = 1
  · subst h1; exact play_pop hN hB hR hp hns a b s t
  by_cases h2 : k = 2
  · subst h2; exact play_room hN hB hR hp hns ha hb hs ht
  by_cases h3 : k = 3
  · subst h3; exact play_set hN hB hR hp hns ha hb hs ht
  by_cases h4 : k = 4
  · subst h4; exact play_unset hN hB hR hp hns ha hb hs ht
  by_cases h5 : k = 5
  · subst h5; exact play_link hN hB hR hp hns ha hb hs ht
  exact play_ask hN hB hR hp hns h0 h1 h2 h3 h4 h5 ha hb hs ht

theorem ns_new {B : Nat} {w w' : World} {y row sc : Nat} (hB : B ≤ w.heap.size) (h : Sc w' y row sc nilS) (h1 : w.heap.size ≤ y) (h2 : w.heap.size ≤ row) (h3 : w.heap.size ≤ sc) : Ns B w' y row sc nilS [] :=
  ⟨h, ⟨by omega, by omega, by omega⟩, World.ownsRow_nil _ _ _ _, by simp⟩

/-- The space in the loop over the acts. -/
def XSt (n B : Nat) (w : World) (x sm : Nat) (wr : World) : Prop := ∃ S g, Rep B wr S ∧ Sp n S x sm g ∧ Below B w wr ∧ B ≤ wr.heap.size

/-- Between New of the reference and play. -/
structure RMid (n B : Nat) (w : World) (x sm y : Nat) (bx : Nat) (o : Obj) (w1 : World) : Prop where
  st : XSt n B w x sm w1
  ns : ∃ row sc, Ns B w1 y row sc nilS []
  box : w1.heap[bx]? = some o

theorem rmid {n B : Nat} {w W w1 : World} {x sm bx : Nat} {o : Obj} {e : Ending} (h : XSt n B w x sm W) (hb : W.heap[bx]? = some o) (hr : RNew W e w1) : ∃ y, e = .returned (.pointer (some ⟨y, 0, none⟩)) ∧ RMid n B w x sm y bx o w1 := by
  obtain ⟨S, g, hR, hp, hbl, hB⟩ := h
  obtain ⟨y, row, sc, rfl, hsc, hb1, h1, h2, h3⟩ := hr
  have hk := kp_of_below hb1
  exact ⟨y, rfl, ⟨S, g, hR.kp hk (by simp), hp, hbl.trans (hb1.mono hB), Nat.le_trans hB hb1.size⟩, ⟨row, sc, ns_new hB hsc h1 h2 h3⟩, keep_below hb hb1⟩

theorem rmid_play {n B : Nat} {w w1 : World} {x sm y bx : Nat} {v : ActV} (hn : n ≤ 100000) (hm : RMid n B w x sm y bx (actB v.k v.a v.b v.s v.t) w1) (hok : AOk v) (hs : v.s.length ≤ 1000000) (ht : v.t.length ≤ 1000000) :
    Calls Tryz.prog 8 #[.pointer (some ⟨x, 0, none⟩), .pointer (some ⟨y, 0, none⟩), .agg #[.int .i64 v.k, .int .i64 v.a, .int .i64 v.b, .string ⟨v.s.toArray⟩, .string ⟨v.t.toArray⟩]] w1 fun e w' => (∃ b : Bool, e = .returned (.bool b)) ∧ XSt (n + 1) B w x sm w' := by
  obtain ⟨⟨S, g, hR, hp, hbl, hB⟩, ⟨row, sc, hns⟩, _⟩ := hm
  refine (play_any hn hB hR hp hns hok.2.1 hok.2.2.1 hs ht).mono ?_
  rintro e w' ⟨he, S', g', hR', hp', hb'⟩
  exact ⟨he, S', g', hR', hp', hbl.trans hb', Nat.le_trans hB hb'.size⟩
end Go.Proofs.YtcaifihdbcjakaaGreat

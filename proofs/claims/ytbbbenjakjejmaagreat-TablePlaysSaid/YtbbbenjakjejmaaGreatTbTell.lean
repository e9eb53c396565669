/- What the program's table tells: 'Name' of what is there; names in their order. -/
import Derived.Test.YtbbbenjakjejmaaGreatTbCol
import Derived.Test.YtbbbenjakjejmaaGreatTbSame
namespace Go.Proofs.YtbbbenjakjejmaaGreat
set_option linter.unusedVariables false
set_option linter.unusedSimpArgs false
open Go.RowKit Go.MapKept Go.WideMaps
theorem Nms.perm {S S' : TS} {hid : Bool} {a b : List Bs} (ha : Nms S hid a) (hb : Nms S' hid b) (h : ∀ k, S'.nm hid k = S.nm hid k) : b.Perm a :=
  (List.perm_ext_iff_of_nodup hb.nodup ha.nodup).2 fun k => by rw [hb.mem, ha.mem, h]
theorem all_star (ks : List Bs) : ks.filter (qB [42]) = ks := List.filter_eq_self.2 (fun k _ => star_all k)
theorem eql_nil (c : Nat) (W : World) : (binOp .eql 60 (.pointer (some ⟨c, 0, none⟩)) (.pointer none)).run Tryz.prog W = .ok (.bool false) W := by kernel_rfl
section
variable {w : World} {B tb mn mh mk : Nat} {who : Own} {cb : Nat → Nat} {S : TS}
theorem Name_some (h : Tb w B tb mn mh mk who cb S) {i : Int} (hi : (Lit.int .i64 i).wf = true) {n : Nat} {c : Cm} (hn : S.num i = some n) (hc : S.cm n = some c) : Calls Tryz.prog 25 #[.pointer (some ⟨tb, 0, none⟩), .int .i64 i] w fun e w' => e = .returned (.tuple #[.string ⟨c.name.toArray⟩, .bool c.hid, .bool true]) ∧ Below w.heap.size w w' := by
  have AT := Lib.hid (at_any h hi)
  rw [hn] at AT
  simp only [ptrM, Option.map_some] at AT
  have q := (h.cmd n c hc).cells
  have q1 := q.2.1
  have q2 := q.2.2.1
  generalize cb n = cn at *
  have hE : ∀ W, (binOp .eql 60 (.pointer (some ⟨cn, 0, none⟩)) (.pointer none)).run Tryz.prog W = .ok (.bool false) W := fun W => eql_nil _ W
  clear h q
  go_enter Tryz.func25, Tryz.ntmps25
  go_wp2_with (go_at_call 44; refine AT.out.mono ?_; rintro e w2 ⟨rfl, rfl⟩)
  go_quiet (fail)
  go_wp2_with fail
  go_ret3
  exact ⟨rfl, below_drewN (Below.refl _ w) _⟩
end
theorem TxtRow.fr {w w' : World} {who : Own} {o : Option Addr} {n c : Nat} {ss : List Bs} (h : TxtRow w (.slice o n c) ss) (hn : ∀ a, o = some a → who a.block = none) (hf : Fr who w w') : TxtRow w' (.slice o n c) ss := by
  obtain ⟨o', c', h1, h2, h3, h4⟩ := h
  cases h1
  refine ⟨_, _, rfl, h2, h3, fun i hi => ?_⟩
  obtain ⟨b, off, e, hl, hc⟩ := h4 i hi
  refine ⟨b, off, e, Nat.lt_of_lt_of_le hl hf.size, ?_⟩
  have hb := hf.block b hl (hn _ e)
  simp only [World.cell?, hb] at hc ⊢
  exact hc
end Go.Proofs.YtbbbenjakjejmaaGreat

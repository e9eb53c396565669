/- 'Count', 'Name', 'Imports' of what is not there, 'Origin'. -/
import Derived.Test.YtbbbenjakjejmaaTbImp
namespace Go.Proofs.Ytbbbenjakjejmaa
set_option linter.unusedVariables false
set_option linter.unusedSimpArgs false
open Go.RowKit Go.MapKept Go.WideMaps
theorem neq_nil (c : Nat) (W : World) : (binOp .neq 62 (.pointer (some ⟨c, 0, none⟩)) (.pointer none)).run Try.prog W = .ok (.bool true) W := by kernel_rfl
theorem up_snoc {S : TS} {a b : Nat} {d : Cm} (h : Up S a b) (hd : S.cm b = some d) (h0 : d.org ≠ 0) : Up S a d.org := by
  induction h with
  | refl n => exact .step hd h0 (.refl _)
  | step h h1 k ih => exact .step h h1 (ih hd)
section
variable {w : World} {B tb mn mh mk : Nat} {who : Own} {cb : Nat → Nat} {S : TS}
theorem Tb.count (h : Tb w B tb mn mh mk who cb S) (hW : WF S) : ∃ es clock, w.heap[mk]? = some (.map es clock) ∧ es.size = S.cnt := by
  obtain ⟨es, clock, hb, hs, hkeys, hg⟩ := h.numbers
  refine ⟨es, clock, hb, ?_⟩
  have h1 : (es.toList.map (·.key)).Nodup := List.pairwise_map.2 ((stamped_iff es clock).1 hs).2.2
  have h2 : (S.keys.map fun n : Nat => iv (n : Int)).Nodup := by
    refine List.pairwise_map.2 (S.keys_nodup.imp fun {a b} hab e => hab ?_)
    have := iv_inj _ _ e
    omega
  have hp : (es.toList.map (·.key)).Perm (S.keys.map fun n : Nat => iv (n : Int)) := by
    refine (List.perm_ext_iff_of_nodup h1 h2).2 fun x => ?_
    rw [List.mem_map, List.mem_map]
    constructor
    · rintro ⟨e, he, rfl⟩
      obtain ⟨k, l, hk, _⟩ := hkeys e he
      have hv : (S.num k).map (fun n => ptrC (cb n)) = some e.val := (hg k e.val).2 ⟨e, he, hk, rfl⟩
      cases hn : S.num k with
      | none => rw [hn] at hv; cases hv
      | some n =>
        obtain ⟨rfl, c, hc⟩ := num_some hn
        exact ⟨n, (hW.mem_keys n).2 (by rw [hc]; rfl), hk.symm⟩
    · rintro ⟨n, hn, rfl⟩
      have hcs := (hW.mem_keys n).1 hn
      have hnum : S.num (n : Int) = some n := by unfold TS.num; simp [hcs]
      obtain ⟨e, he, hk, _⟩ := (hg (n : Int) (ptrC (cb n))).1 (by show (S.num (n : Int)).map _ = _; rw [hnum]; rfl)
      exact ⟨e, he, hk⟩
  have := hp.length_eq
  simpa [TS.cnt] using this
theorem Count_any (h : Tb w B tb mn mh mk who cb S) (hW : WF S) : Calls Try.prog 11 #[.pointer (some ⟨tb, 0, none⟩)] w fun e w' => e = .returned (.int .i64 (S.cnt : Int)) ∧ w = w' := by
  have c2 := h.cells.2.2.1
  obtain ⟨es, clock, hb, hsz⟩ := h.count hW
  have hlen : ∀ ty, (Builtin.len_ #[55] ty #[.map (some mk)]).run Try.prog w = .ok (.int .i64 (S.cnt : Int)) w := fun ty => by
    rw [run_len_map _ _ _ _ _ _ (by kernel_rfl) hb, hsz]
    rfl
  clear h hb hsz
  go_enter Try.func11, Try.ntmps11
  go_wp2_with fail
  go_ret
  exact ⟨rfl, rfl⟩
theorem Name_none (h : Tb w B tb mn mh mk who cb S) {i : Int} (hi : (Lit.int .i64 i).wf = true) (hn : S.num i = none) : Calls Try.prog 13 #[.pointer (some ⟨tb, 0, none⟩), .int .i64 i] w fun e w' => e = .returned (.tuple #[.string ⟨#[]⟩, .bool false, .bool false]) ∧ w = w' := by
  have AT := Lib.hid (at_any h hi)
  rw [hn] at AT
  simp only [ptrM, Option.map_none] at AT
  clear h
  go_enter Try.func13, Try.ntmps13
  go_wp2_with (go_at_call 35; refine AT.out.mono ?_; rintro e w2 ⟨rfl, rfl⟩)
  go_ret3
  exact ⟨rfl, rfl⟩
theorem Imports_none (h : Tb w B tb mn mh mk who cb S) {i : Int} (hi : (Lit.int .i64 i).wf = true) (hn : S.num i = none) : Calls Try.prog 14 #[.pointer (some ⟨tb, 0, none⟩), .int .i64 i] w fun e w' => e = .returned (.slice none 0 0) ∧ w = w' := by
  have AT := Lib.hid (at_any h hi)
  rw [hn] at AT
  simp only [ptrM, Option.map_none] at AT
  clear h
  go_enter Try.func14, Try.ntmps14
  go_wp2_with (go_at_call 35; refine AT.out.mono ?_; rintro e w2 ⟨rfl, rfl⟩)
  go_ret
  exact ⟨rfl, rfl⟩
set_option maxRecDepth 100000 in
set_option maxHeartbeats 800000 in
theorem Origin_any (h : Tb w B tb mn mh mk who cb S) (hW : WF S) {i : Int} (hi : (Lit.int .i64 i).wf = true) {n : Nat} (hn : S.num i = some n) : Calls Try.prog 26 #[.pointer (some ⟨tb, 0, none⟩), .int .i64 i] w fun e w' => ∃ (r : Nat) (c : Cm), e = .returned (.tuple #[.int .i64 (r : Int), .int .i64 0]) ∧ S.cm r = some c ∧ c.org = 0 ∧ Up S n r ∧ w = w' := by
  have AT := Lib.hid (at_any h hi)
  rw [hn] at AT
  simp only [ptrM, Option.map_some] at AT
  obtain ⟨hie, c0, hc0⟩ := num_some hn
  have H := Lib.hid (And.intro h hW)
  have H0 := Lib.hid hc0
  have hE0 : ∀ W, (binOp .eql 62 (.pointer (some ⟨cb n, 0, none⟩)) (.pointer none)).run Try.prog W = .ok (.bool false) W := fun W => ptr_nil _ W
  clear h hW hc0 hie
  go_enter Try.func26, Try.ntmps26
  go_wp2_with (go_at_call 35; refine AT.out.mono ?_; rintro e w2 ⟨rfl, rfl⟩)
  go_loopg [6] n (fun g q wr => wr = w ∧ ∃ a d, a ≤ g ∧ q = .pointer (some ⟨cb a, 0, none⟩) ∧ S.cm a = some d ∧ Up S n a)
  case atStart => exact ⟨rfl, n, c0, Nat.le_refl _, rfl, H0.out, .refl _⟩
  case round =>
    obtain ⟨rfl, a, d, ha, rfl, hd, hu⟩ := hrel
    have q := (H.out.1.cmd a d hd).cells
    have q0 := q.1
    have q3 := q.2.2.2.1
    have HU := Lib.hid (And.intro hd (And.intro hu ha))
    by_cases h0 : d.org = 0
    · rw [h0, show ptrO cb 0 = .pointer none from rfl] at q3
      clear q hd hu ha
      go_wp2_with fail
      go_ret2
      exact ⟨a, d, rfl, HU.out.1, h0, HU.out.2.1, rfl⟩
    · rw [ptrO_some h0] at q3
      obtain ⟨p, hp, _, hlt⟩ := H.out.2.org a d hd h0
      have HP : Hid (S.cm d.org = some p ∧ d.org < a ∧ d.org ≠ 0) := ⟨hp, hlt, h0⟩
      have hE : ∀ W, (binOp .neq 62 (.pointer (some ⟨cb d.org, 0, none⟩)) (.pointer none)).run Try.prog W = .ok (.bool true) W := fun W => neq_nil _ W
      generalize hco : cb d.org = co at q3 hE
      have HCO := Lib.hid hco
      clear q hd hu ha hp hlt h0 hco
      go_wp2_with fail
      go_roundg (gk - 1)
      case measure => have := HU.out.2.2; have := HP.out.2.1; omega
      case rel => exact ⟨rfl, d.org, p, by have := HU.out.2.2; have := HP.out.2.1; omega, by rw [← HCO.out], HP.out.1, up_snoc HU.out.2.1 HU.out.1 HP.out.2.2⟩
end
end Go.Proofs.Ytbbbenjakjejmaa

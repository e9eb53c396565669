/- 'Import'. -/
import Derived.Test.YtbbbenjakjejmaaTbActs
namespace Go.Proofs.Ytbbbenjakjejmaa
set_option linter.unusedVariables false
set_option linter.unusedSimpArgs false
open Go.RowKit Go.MapKept Go.WideMaps
theorem num_some {S : TS} {i : Int} {n : Nat} (h : S.num i = some n) : i = (n : Int) ∧ ∃ c, S.cm n = some c := by
  unfold TS.num at h
  split at h
  · rename_i hh
    cases h
    refine ⟨by omega, ?_⟩
    cases e : S.cm i.toNat with
    | none => rw [e] at hh; simp at hh
    | some c => exact ⟨c, rfl⟩
  · cases h
section
variable {B tb mn mh mk : Nat} {who : Own} {cb : Nat → Nat}
/-- What 'Import' does. -/
def ImpP (w : World) (B tb mn mh mk : Nat) (who : Own) (cb : Nat → Nat) (S : TS) (name : Bs) (i : Int) (e : Ending) (w' : World) : Prop :=
  (∃ r, e = .returned (.tuple #[.int .i64 0, .slice none 0 0, .int .i64 r]) ∧ ((S.num i = none ∧ r = 8) ∨ ∃ org n0, S.num i = some org ∧ S.nm false name = some n0 ∧ Up S org n0 ∧ r = 9) ∧ Tb w' B tb mn mh mk who cb S ∧ Stp who who w w') ∨
    ∃ org who' cb' o cap S' L, S.num i = some org ∧ OrgOk S name org ∧ e = .returned (.tuple #[.int .i64 (S'.last : Int), .slice o L.length cap, .int .i64 0]) ∧ AddR S name org S' L ∧ Tb w' B tb mn mh mk who' cb' S' ∧ IR w' B who' (.slice o L.length cap) (srtI (L.map (fun k : Nat => (k : Int)))) ∧ Stp who who' w w'
set_option maxRecDepth 100000 in
set_option maxHeartbeats 1600000 in
theorem Import_any {S : TS} {w : World} (h : Tb w B tb mn mh mk who cb S) (hW : WF S) (hl : S.last ≤ 800000) (he : S.epoch ≤ 800000) (name : Bs) (hnl : name.length ≤ 100000) (i : Int) (hi : (Lit.int .i64 i).wf = true) :
    Calls Try.prog 25 #[.pointer (some ⟨tb, 0, none⟩), .string ⟨name.toArray⟩, .int .i64 i] w (ImpP w B tb mn mh mk who cb S name i) := by
  have c0 := h.cells.1
  have c2 := h.cells.2.2.1
  have hk : name.length ≤ maxLen := by unfold maxLen; omega
  have hl1 := h.lookName false (k := name) hk
  rw [show kindB mn mh false = mn from rfl] at hl1
  have hl2 := h.lookNum hi
  cases hn : S.num i with
  | none =>
    rw [hn] at hl2
    simp only [ptrM, Option.map_none] at hl2
    have H := Lib.hid h
    clear h hl1
    go_enter Try.func25, Try.ntmps25
    go_wp2_with fail
    go_ret3
    exact .inl ⟨8, rfl, .inl ⟨hn, rfl⟩, by first | exact H.out | exact H.out.low (Below.refl _ _).drew, by first | exact Stp.refl _ _ | exact Stp.of_below (Below.refl _ _).drew⟩
  | some org =>
    rw [hn] at hl2
    simp only [ptrM, Option.map_some] at hl2
    obtain ⟨hie, dO, hdO⟩ := num_some hn
    have hpos := (hW.pos org dO hdO).1
    have H := Lib.hid (And.intro h (And.intro hW (And.intro hl he)))
    have HN := Lib.hid (And.intro hn hdO)
    have AD : Hid (OrgOk S name org → Calls Try.prog 37 #[.pointer (some ⟨tb, 0, none⟩), .string ⟨name.toArray⟩, .pointer (some ⟨cb org, 0, none⟩)] w (AddP w B tb mn mh mk who S name org)) := fun ho => by
      have := add_any h hW hl he name hnl org ho
      rw [ptrO_some (by omega)] at this
      exact this
    clear h hW hdO hl he hn hie
    go_enter Try.func25, Try.ntmps25
    go_wp2_with fail
    go_loopg [9] org (fun g q wr => wr = w ∧ ∃ a : Nat, a ≤ g ∧ q = ptrO cb a ∧ (a = 0 ∨ ∃ d, S.cm a = some d) ∧ ∀ n0, S.nm false name = some n0 → (a ≠ 0 → Up S a n0 → Up S org n0) ∧ (Up S org n0 → a ≠ 0 ∧ Up S a n0))
    case atStart => exact ⟨rfl, org, Nat.le_refl _, by rw [ptrO_some (by omega)], .inr ⟨dO, HN.out.2⟩, fun n0 _ => ⟨fun _ h => h, fun h => ⟨by omega, h⟩⟩⟩
    case round =>
      obtain ⟨rfl, a, ha, rfl, hd, hup⟩ := hrel
      have HU := Lib.hid (And.intro ha hup)
      by_cases haz : a = 0
      · subst haz
        rw [show ptrO cb 0 = .pointer none from rfl]
        have HOK : Hid (OrgOk S name org) := .inr ⟨⟨dO, HN.out.2⟩, fun n0 hn0 hu => ((hup n0 hn0).2 hu).1 rfl⟩
        clear hd hup ha
        go_wp2_with (go_at_call 37; refine (AD.out HOK.out).mono ?_; rintro e w2 ⟨who', cb', o, cap, S', L, rfl, hA, hT, hI, hS⟩; have H2 := Lib.hid (And.intro hA (And.intro hT (And.intro hI hS))); clear hA hT hI hS)
        go_ret3
        exact .inr ⟨org, who', cb', o, cap, S', L, HN.out.1, HOK.out, rfl, H2.out⟩
      · obtain ⟨d, hd⟩ := hd.resolve_left haz
        rw [ptrO_some haz]
        have q3 := (H.out.1.cmd a d hd).cells.2.2.2.1
        have hstep : d.org ≠ 0 → ∃ d', S.cm d.org = some d' ∧ d.org < a := fun h0 => by
          obtain ⟨p, hp, _, hlt⟩ := H.out.2.1.org a d hd h0
          exact ⟨p, hp, hlt⟩
        have horg0 : d.org ≤ a - 1 := by
          by_cases h0 : d.org = 0
          · omega
          · obtain ⟨_, _, hlt⟩ := hstep h0; omega
        have HQ : Hid (d.org ≤ a - 1 ∧ (d.org = 0 ∨ ∃ d', S.cm d.org = some d')) := ⟨horg0, by by_cases h0 : d.org = 0; exact .inl h0; exact .inr (by obtain ⟨p, hp, _⟩ := hstep h0; exact ⟨p, hp⟩)⟩
        cases hn0 : S.nm false name with
        | none =>
          rw [hn0] at hl1
          simp only [ptrM, Option.map_none] at hl1
          have hE : ∀ W, (binOp .eql 62 (.pointer (some ⟨cb a, 0, none⟩)) (.pointer none)).run Try.prog W = .ok (.bool false) W := fun W => ptr_nil _ W
          generalize hqo : ptrO cb d.org = qo at q3
          have HQO := Lib.hid hqo
          clear hd hup ha hstep hqo horg0
          go_wp2_with fail
          go_roundg (gk - 1)
          case measure => have := HU.out.1; omega
          case rel => exact ⟨rfl, d.org, by have := HU.out.1; have := HQ.out.1; omega, HQO.out.symm, HQ.out.2, fun n0 e => by rw [hn0] at e; cases e⟩
        | some n0 =>
          rw [hn0] at hl1
          simp only [ptrM, Option.map_some] at hl1
          obtain ⟨c, hc, _⟩ := (H.out.2.1.names _ _ _).1 hn0
          by_cases han : a = n0
          · subst han
            have hE : ∀ W, (binOp .eql 62 (.pointer (some ⟨cb a, 0, none⟩)) (.pointer (some ⟨cb a, 0, none⟩))).run Try.prog W = .ok (.bool true) W := fun W => ptr_same _ W
            have HB : Hid (Up S org a) := (hup a hn0).1 haz (.refl a)
            clear hd hup ha hstep horg0 q3 hc
            go_wp2_with fail
            go_ret3
            exact .inl ⟨9, rfl, .inr ⟨org, a, HN.out.1, hn0, HB.out, rfl⟩, H.out.1, Stp.refl _ _⟩
          · have hE : (binOp .eql 62 (.pointer (some ⟨cb a, 0, none⟩)) (.pointer (some ⟨cb n0, 0, none⟩))).run Try.prog wr = .ok (.bool false) wr := ptr_other (H.out.1.isC hd) (H.out.1.isC hc) (fun e => han (H.out.1.inj hd hc e))
            have HUP : Hid (d.org ≠ 0 → Up S d.org n0 → Up S org n0) := fun h0 hu => (hup n0 hn0).1 haz (.step hd h0 hu)
            have HUQ : Hid (Up S org n0 → d.org ≠ 0 ∧ Up S d.org n0) := fun hu => by
              have h1 := ((hup n0 hn0).2 hu).2
              cases h1 with
              | refl => exact absurd rfl han
              | step h h0 k => rw [hd] at h; cases h; exact ⟨h0, k⟩
            generalize hqo : ptrO cb d.org = qo at q3
            have HQO := Lib.hid hqo
            clear hd hup ha hstep hqo horg0 hc
            go_wp2_with fail
            go_roundg (gk - 1)
            case measure => have := HU.out.1; omega
            case rel => exact ⟨rfl, d.org, by have := HU.out.1; have := HQ.out.1; omega, HQO.out.symm, HQ.out.2, fun n1 e => by rw [hn0] at e; cases e; exact ⟨HUP.out, HUQ.out⟩⟩
end
end Go.Proofs.Ytbbbenjakjejmaa

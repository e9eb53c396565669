/- 'Define', 'Import', 'Delete'. -/
import Derived.Test.YtbbbenjakjejmaaTbAdd
import Derived.Test.YtbbbenjakjejmaaTbMove2
namespace Go.Proofs.Ytbbbenjakjejmaa
set_option linter.unusedVariables false
set_option linter.unusedSimpArgs false
open Go.RowKit Go.MapKept Go.WideMaps
section
variable {B tb mn mh mk : Nat} {who : Own} {cb : Nat → Nat}
theorem Tb.isC {w : World} {S : TS} (h : Tb w B tb mn mh mk who cb S) {n : Nat} {c : Cm} (hc : S.cm n = some c) : IsC w (cb n) := by
  obtain ⟨_, v, h2, _⟩ := h.cmd n c hc
  exact ⟨_, h2⟩
theorem Tb.inj {w : World} {S : TS} (h : Tb w B tb mn mh mk who cb S) {n k : Nat} {c d : Cm} (hc : S.cm n = some c) (hd : S.cm k = some d) (e : cb n = cb k) : n = k := by
  have h1 := (h.cmd n c hc).1
  rw [e, (h.cmd k d hd).1] at h1
  simpa using h1.symm
theorem Define_any {S : TS} {w : World} (h : Tb w B tb mn mh mk who cb S) (hW : WF S) (hl : S.last ≤ 800000) (he : S.epoch ≤ 800000) (name : Bs) (hnl : name.length ≤ 100000) :
    Calls Try.prog 15 #[.pointer (some ⟨tb, 0, none⟩), .string ⟨name.toArray⟩] w (AddP w B tb mn mh mk who S name 0) := by
  have AD := Lib.hid (add_any h hW hl he name hnl 0 (.inl rfl))
  rw [show ptrO cb 0 = .pointer none from rfl] at AD
  clear h hW
  go_enter Try.func15, Try.ntmps15
  go_wp2_with (go_at_call 37; refine AD.out.mono ?_; rintro e w2 ⟨who', cb', o, cap, S', L, rfl, hA, hT, hI, hS⟩; have H := Lib.hid (And.intro hA (And.intro hT (And.intro hI hS))); clear hA hT hI hS)
  go_ret2
  exact ⟨who', cb', o, cap, S', L, rfl, H.out⟩
/-- What 'Delete' does. -/
def DelR (S : TS) (name : Bs) (r : Int) (S' : TS) (L : List Nat) : Prop :=
  (S.nm false name = none ∧ r = 8 ∧ S' = S ∧ L = []) ∨ ∃ n, S.nm false name = some n ∧ r = 0 ∧ Gone { S with epoch := S.epoch + 1 } n L S'
set_option maxHeartbeats 800000 in
theorem Delete_any {S : TS} {w : World} (h : Tb w B tb mn mh mk who cb S) (hW : WF S) (hl : S.last ≤ 800000) (he : S.epoch ≤ 800000) (name : Bs) (hnl : name.length ≤ 100000) :
    Calls Try.prog 12 #[.pointer (some ⟨tb, 0, none⟩), .string ⟨name.toArray⟩] w fun e w' => ∃ r o cap S' L, e = .returned (.tuple #[.slice o L.length cap, .int .i64 r]) ∧ DelR S name r S' L ∧ Tb w' B tb mn mh mk who cb S' ∧ IR w' B who (.slice o L.length cap) (srtI (L.map (fun k : Nat => (k : Int)))) ∧ Stp who who w w' := by
  have c0 := h.cells.1
  have hk : name.length ≤ maxLen := by unfold maxLen; omega
  have hl1 := h.lookName false (k := name) hk
  rw [show kindB mn mh false = mn from rfl] at hl1
  cases hn : S.nm false name with
  | none =>
    rw [hn] at hl1
    simp only [ptrM, Option.map_none] at hl1
    have H := Lib.hid h
    clear h
    go_enter Try.func12, Try.ntmps12
    go_wp2_with fail
    go_ret2
    exact ⟨8, none, 0, S, [], rfl, .inl ⟨hn, rfl, rfl, rfl⟩, by first | exact H.out | exact H.out.low (Below.refl _ _).drew, by simpa [srtI] using IR.nil _ B who, by first | exact Stp.refl _ _ | exact Stp.of_below (Below.refl _ _).drew⟩
  | some n =>
    rw [hn] at hl1
    simp only [ptrM, Option.map_some] at hl1
    obtain ⟨c, hc, _⟩ := (hW.names _ _ _).1 hn
    have c4 := h.cells.2.2.2.2.1
    have cf := h.cells.2.2.2.2.2 4
    have hw : IntKind.i64.wrap ((S.epoch : Int) + 1) = ((S.epoch + 1 : Nat) : Int) := by rw [IntWalk.i64_in _ (by omega)]; omega
    obtain ⟨hT2, hS2⟩ := h.setHdr 4 (.inr rfl) (S.epoch + 1)
    rw [if_neg (by decide)] at hT2
    have d0 := hT2.cells.1
    have hl2 := hT2.lookName false (k := name) hk
    rw [show kindB mn mh false = mn from rfl] at hl2
    simp only [hn, ptrM, Option.map_some] at hl2
    have TK := Lib.hid (take_any hT2 (wf_epoch hW (S.epoch + 1)) (by show S.last ≤ _; omega) hc)
    have HS2 := Lib.hid hS2
    obtain ⟨w2, hw2⟩ : ∃ w2, w.setCell ⟨tb, 4, none⟩ (.int .i64 ((S.epoch + 1 : Nat) : Int)) = w2 := ⟨_, rfl⟩
    rw [hw2] at hT2 hl2 TK HS2 d0
    obtain ⟨en, hen⟩ : ∃ en, S.epoch + 1 = en := ⟨_, rfl⟩
    rw [hen] at hw hw2
    clear h hT2 hS2 hc
    go_enter Try.func12, Try.ntmps12
    go_wp2_with (go_at_call 34; refine TK.out.mono ?_; rintro e w3 ⟨o, cap, S', L, rfl, hG, hT, hI, hS⟩; have H := Lib.hid (And.intro hG (And.intro hT (And.intro hI hS))); clear hG hT hI hS)
    go_ret2
    exact ⟨0, o, cap, S', L, rfl, .inr ⟨n, hn, rfl, H.out.1⟩, H.out.2.1, H.out.2.2.1, HS2.out.trans H.out.2.2.2⟩
end
end Go.Proofs.Ytbbbenjakjejmaa

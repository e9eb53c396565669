/- 'awake' of layer 17: the example of the document. -/
import Derived.Test.YtbbbenjakjejmaaGreatTbActs
namespace Go.Proofs.YtbbbenjakjejmaaGreat
set_option linter.unusedVariables false
set_option linter.unusedSimpArgs false
open Go.RowKit Go.MapKept Go.WideMaps
def A1 : TS := addT newT [102] 0
def A2 : TS := addT A1 [103] 1
def A3 : TS := moveT A2 1 false [102] false [104]
theorem wf1 : WF A1 := wf_addT wf_new (by decide) rfl (.inl rfl)
theorem cm1 : A1.cm 1 = some ⟨[102], false, 0, []⟩ := rfl
theorem wf2 : WF A2 := wf_addT wf1 (by decide) rfl (.inr ⟨_, cm1⟩)
theorem wf3 : WF A3 := wf_moveT wf2 (by decide) rfl rfl
theorem cm31 : A3.cm 1 = some ⟨[104], false, 0, [2]⟩ := rfl
theorem cm32 : A3.cm 2 = some ⟨[103], false, 1, []⟩ := rfl
theorem up3 {r : Nat} {c : Cm} (h : Up A3 2 r) (hc : A3.cm r = some c) (h0 : c.org = 0) : r = 1 := by
  cases h with
  | refl => rw [cm32] at hc; cases hc; cases h0
  | step h h1 k =>
    rw [cm32] at h
    cases h
    cases k with
    | refl => rfl
    | step h h1 k => rw [cm31] at h; cases h; exact absurd rfl h1
theorem gone3 {L : List Nat} {S' : TS} {e : Nat} (g : Gone { A3 with epoch := e } 1 L S') : L.length = 2 := by
  have h2 : 2 ∈ L := by
    by_cases h : 2 ∈ L
    · exact h
    · have h1 := g.cm 2
      rw [if_neg h] at h1
      have e1 : S'.cm 2 = some (dropI 1 ⟨[103], false, 1, []⟩) := h1
      obtain ⟨p, hp, _⟩ := g.wf.org 2 _ e1 (by decide)
      have h3 := g.cm 1
      rw [if_pos g.top] at h3
      rw [show (dropI 1 ⟨[103], false, 1, []⟩).org = 1 from rfl, h3] at hp
      cases hp
  have hp : L.Perm [1, 2] := (List.perm_ext_iff_of_nodup g.nodup (by decide)).2 fun k => by
    constructor
    · intro hk
      obtain ⟨d, hd⟩ := g.was k hk
      have := wf3.pos k d hd
      have hl : A3.last = 2 := rfl
      have : k = 1 ∨ k = 2 := by omega
      simpa using this
    · intro hk
      have : k = 1 ∨ k = 2 := by simpa using hk
      rcases this with rfl | rfl
      · exact g.top
      · exact h2
  rw [hp.length_eq]
  rfl
section
variable {B tb mn mh mk : Nat} {who : Own} {cb : Nat → Nat}
theorem low_stp {w w' : World} {S : TS} {who' : Own} (h : Tb w B tb mn mh mk who cb S) (hs : Stp who who' w w') : Below B w w' := hs.below h.base (fun j hj => (h.lo j hj).1)
theorem awDefine {w : World} (h : Tb w B tb mn mh mk who cb newT) : Calls Tryz.prog 10 #[.pointer (some ⟨tb, 0, none⟩), .string ⟨#[102]⟩] w fun e w' => ∃ who' cb' o c, e = .returned (.tuple #[.int .i64 1, .slice o 0 c]) ∧ Tb w' B tb mn mh mk who' cb' A1 ∧ Below B w w' := by
  refine (Define_any h wf_new (by decide) (by decide) [102] (by decide)).mono ?_
  rintro e w' ⟨who', cb', o, c, S', L, he, hA, hT, hI, hS⟩
  rcases hA with ⟨_, rfl, rfl⟩ | ⟨n, S1, hn, _⟩
  · exact ⟨who', cb', o, c, he, hT, low_stp h hS⟩
  · cases hn
theorem awImport {w : World} (h : Tb w B tb mn mh mk who cb A1) : Calls Tryz.prog 11 #[.pointer (some ⟨tb, 0, none⟩), .string ⟨#[103]⟩, .int .i64 1] w fun e w' => ∃ who' cb' o c, e = .returned (.tuple #[.int .i64 2, .slice o 0 c, .int .i64 0]) ∧ Tb w' B tb mn mh mk who' cb' A2 ∧ Below B w w' := by
  refine (Import_any h wf1 (by decide) (by decide) [103] (by decide) 1 (by decide)).mono ?_
  have hn : A1.num 1 = some 1 := rfl
  have hm : A1.nm false [103] = none := rfl
  rintro e w' (⟨r, _, hr, _⟩ | ⟨org, who', cb', o, c, S', L, ho, _, he, hA, hT, hI, hS⟩)
  · rcases hr with ⟨h0, _⟩ | ⟨_, n0, _, h1, _⟩
    · rw [hn] at h0; cases h0
    · rw [hm] at h1; cases h1
  · rw [hn] at ho
    cases ho
    rcases hA with ⟨_, rfl, rfl⟩ | ⟨n, S1, h1, _⟩
    · exact ⟨who', cb', o, c, he, hT, low_stp h hS⟩
    · rw [hm] at h1; cases h1
theorem awRename {w : World} (h : Tb w B tb mn mh mk who cb A2) : Calls Tryz.prog 12 #[.pointer (some ⟨tb, 0, none⟩), .string ⟨#[102]⟩, .string ⟨#[104]⟩] w fun e w' => e = .returned (.int .i64 0) ∧ Tb w' B tb mn mh mk who cb A3 ∧ Below B w w' := by
  refine (Rename_any h wf2 (by decide) [102] [104] (by decide) (by decide)).mono ?_
  have hn : A2.nm false [102] = some 1 := rfl
  have hm : A2.nm false [104] = none := rfl
  rintro e w' ⟨r, S', he, hM, hT, hS⟩
  rcases hM with ⟨h1, _⟩ | ⟨n, k, _, h1, _⟩ | ⟨n, h1, _, rfl, rfl⟩
  · rw [hn] at h1; cases h1
  · rw [hm] at h1; cases h1
  · rw [hn] at h1
    cases h1
    exact ⟨he, hT, low_stp h hS⟩
theorem awOrigin {w : World} (h : Tb w B tb mn mh mk who cb A3) : Calls Tryz.prog 13 #[.pointer (some ⟨tb, 0, none⟩), .int .i64 2] w fun e w' => e = .returned (.tuple #[.int .i64 1, .int .i64 0]) ∧ w = w' := by
  refine (Origin_any h wf3 (i := 2) (by decide) (n := 2) rfl).mono ?_
  rintro e w' ⟨r, c, he, hc, h0, hu, hw⟩
  have := up3 hu hc h0
  subst this
  exact ⟨he, hw⟩
theorem awDelete {w : World} (h : Tb w B tb mn mh mk who cb A3) : Calls Tryz.prog 14 #[.pointer (some ⟨tb, 0, none⟩), .string ⟨#[104]⟩] w fun e w' => ∃ o c, e = .returned (.tuple #[.slice o 2 c, .int .i64 0]) ∧ Below B w w' := by
  refine (Delete_any h wf3 (by decide) (by decide) [104] (by decide)).mono ?_
  have hn : A3.nm false [104] = some 1 := rfl
  rintro e w' ⟨r, o, c, S', L, he, hD, hT, hI, hS⟩
  rcases hD with ⟨h1, _⟩ | ⟨n, h1, rfl, g⟩
  · rw [hn] at h1; cases h1
  · rw [hn] at h1
    cases h1
    rw [gone3 g] at he
    exact ⟨o, c, he, low_stp h hS⟩
end
set_option maxRecDepth 100000 in
set_option maxHeartbeats 1600000 in
theorem awake_any (w : World) : Calls Tryz.prog 5 #[] w fun e w' => e = .returned (.bool true) ∧ Below w.heap.size w w' := by
  have NW := Lib.hid (tNew_any w)
  go_enter Tryz.func5, Tryz.ntmps5
  go_wp2_with (first
    | (go_at_call 6; refine NW.out.mono ?_; rintro e w1 ⟨tb, mn, mh, mk, who0, cb0, rfl, hT, hB⟩; have H0 := Lib.hid (And.intro hT hB); clear hT hB)
    | (go_at_call 10; refine (awDefine H0.out.1).mono ?_; rintro e w2 ⟨who1, cb1, o1, c1, rfl, hT, hB⟩; have H1 := Lib.hid (And.intro hT (H0.out.2.trans hB)); clear hT hB)
    | (go_at_call 11; refine (awImport H1.out.1).mono ?_; rintro e w3 ⟨who2, cb2, o2, c2, rfl, hT, hB⟩; have H2 := Lib.hid (And.intro hT (H1.out.2.trans hB)); clear hT hB)
    | (go_at_call 12; refine (awRename H2.out.1).mono ?_; rintro e w4 ⟨rfl, hT, hB⟩; have H3 := Lib.hid (And.intro hT (H2.out.2.trans hB)); clear hT hB)
    | (go_at_call 13; refine (awOrigin H3.out.1).mono ?_; rintro e w5 ⟨rfl, rfl⟩)
    | (go_at_call 14; refine (awDelete H3.out.1).mono ?_; rintro e w6 ⟨o3, c3, rfl, hB⟩; have H4 := Lib.hid (H3.out.2.trans hB); clear hB))
  go_ret
  exact ⟨rfl, H4.out⟩
end Go.Proofs.YtbbbenjakjejmaaGreat

/- 'Define', 'Import', 'Delete'. 'Import'. 'Count', 'Name', 'Imports' of what is not there, 'Origin'. -/
import Derived.Test.YtbbbenjakjejmaaGreatTbAdd
import Derived.Test.YtbbbenjakjejmaaGreatTbMove
namespace Go.Proofs.YtbbbenjakjejmaaGreat
set_option linter.unusedVariables false
set_option linter.unusedSimpArgs false
open Go.RowKit Go.MapKept Go.WideMaps
section
variable {B tb mn mh mk : Nat} {who : Own} {cb : Nat → Nat}
theorem Tb.isC {w : World} {S : TS} (h : Tb w B tb mn mh mk who cb S) {n : Nat} {c : Cm} (hc : S.cm n = some c) : IsC w (cb n) := by
  obtain ⟨_, v, h2, _⟩ := h.cmd n c hc
  exact ⟨_, h2⟩
theorem Tb.inj {w : World} {S : TS} (h : Tb w B tb mn mh mk who cb S) {n k : Nat} {c d : Cm} (hc : S.cm n = some c) (hd : S.cm k = some d) (e : cb n = cb k) : n = k := by
  have h1 := (h.cmd n c hc).1
  rw [e, (h.cmd k d hd).1] at h1
  simpa using h1.symm
theorem Define_any {S : TS} {w : World} (h : Tb w B tb mn mh mk who cb S) (hW : WF S) (hl : S.last ≤ 800000) (he : S.epoch ≤ 800000) (name : Bs) (hnl : name.length ≤ 100000) :
    Calls Tryz.prog 10 #[.pointer (some ⟨tb, 0, none⟩), .string ⟨name.toArray⟩] w (AddP w B tb mn mh mk who S name 0) := by
  have AD := Lib.hid (add_any h hW hl he name hnl 0 (.inl rfl))
  rw [show ptrO cb 0 = .pointer none from rfl] at AD
  clear h hW
  go_enter Tryz.func10, Tryz.ntmps10
  go_wp2_with (go_at_call 42; refine AD.out.mono ?_; rintro e w2 ⟨who', cb', o, cap, S', L, rfl, hA, hT, hI, hS⟩; have H := Lib.hid (And.intro hA (And.intro hT (And.intro hI hS))); clear hA hT hI hS)
  go_ret2
  exact ⟨who', cb', o, cap, S', L, rfl, H.out⟩
/-- What 'Delete' does. -/
def DelR (S : TS) (name : Bs) (r : Int) (S' : TS) (L : List Nat) : Prop :=
  (S.nm false name = none ∧ r = 8 ∧ S' = S ∧ L = []) ∨ ∃ n, S.nm false name = some n ∧ r = 0 ∧ Gone { S with epoch := S.epoch + 1 } n L S'
set_option maxHeartbeats 800000 in
theorem Delete_any {S : TS} {w : World} (h : Tb w B tb mn mh mk who cb S) (hW : WF S) (hl : S.last ≤ 800000) (he : S.epoch ≤ 800000) (name : Bs) (hnl : name.length ≤ 100000) :
    Calls Tryz.prog 14 #[.pointer (some ⟨tb, 0, none⟩), .string ⟨name.toArray⟩] w fun e w' => ∃ r o cap S' L, e = .returned (.tuple #[.slice o L.length cap, .int .i64 r]) ∧ DelR S name r S' L ∧ Tb w' B tb mn mh mk who cb S' ∧ IR w' B who (.slice o L.length cap) (srtI (L.map (fun k : Nat => (k : Int)))) ∧ Stp who who w w' := by
  have c0 := h.cells.1
  have hk : name.length ≤ maxLen := by unfold maxLen; omega
  have hl1 := h.lookName false (k := name) hk
  rw [show kindB mn mh false = mn from rfl] at hl1
  cases hn : S.nm false name with
  | none =>
    rw [hn] at hl1
    simp only [ptrM, Option.map_none] at hl1
    have H := Lib.hid h
    clear h
    go_enter Tryz.func14, Tryz.ntmps14
    go_wp2_with fail
    go_ret2
    exact ⟨8, none, 0, S, [], rfl, .inl ⟨hn, rfl, rfl, rfl⟩, by first | exact H.out | exact H.out.low (Below.refl _ _).drew, by simpa [srtI] using IR.nil _ B who, by first | exact Stp.refl _ _ | exact Stp.of_below (Below.refl _ _).drew⟩
  | some n =>
    rw [hn] at hl1
    simp only [ptrM, Option.map_some] at hl1
    obtain ⟨c, hc, _⟩ := (hW.names _ _ _).1 hn
    have c4 := h.cells.2.2.2.2.1
    have cf := h.cells.2.2.2.2.2 4
    have hw : IntKind.i64.wrap ((S.epoch : Int) + 1) = ((S.epoch + 1 : Nat) : Int) := by rw [IntWalk.i64_in _ (by omega)]; omega
    obtain ⟨hT2, hS2⟩ := h.setHdr 4 (.inr rfl) (S.epoch + 1)
    rw [if_neg (by decide)] at hT2
    have d0 := hT2.cells.1
    have hl2 := hT2.lookName false (k := name) hk
    rw [show kindB mn mh false = mn from rfl] at hl2
    simp only [hn, ptrM, Option.map_some] at hl2
    have TK := Lib.hid (take_any hT2 (wf_epoch hW (S.epoch + 1)) (by show S.last ≤ _; omega) hc)
    have HS2 := Lib.hid hS2
    obtain ⟨w2, hw2⟩ : ∃ w2, w.setCell ⟨tb, 4, none⟩ (.int .i64 ((S.epoch + 1 : Nat) : Int)) = w2 := ⟨_, rfl⟩
    rw [hw2] at hT2 hl2 TK HS2 d0
    obtain ⟨en, hen⟩ : ∃ en, S.epoch + 1 = en := ⟨_, rfl⟩
    rw [hen] at hw hw2
    clear h hT2 hS2 hc
    go_enter Tryz.func14, Tryz.ntmps14
    go_wp2_with (go_at_call 45; refine TK.out.mono ?_; rintro e w3 ⟨o, cap, S', L, rfl, hG, hT, hI, hS⟩; have H := Lib.hid (And.intro hG (And.intro hT (And.intro hI hS))); clear hG hT hI hS)
    go_ret2
    exact ⟨0, o, cap, S', L, rfl, .inr ⟨n, hn, rfl, H.out.1⟩, H.out.2.1, H.out.2.2.1, HS2.out.trans H.out.2.2.2⟩
end
end Go.Proofs.YtbbbenjakjejmaaGreat
namespace Go.Proofs.YtbbbenjakjejmaaGreat
set_option linter.unusedVariables false
set_option linter.unusedSimpArgs false
open Go.RowKit Go.MapKept Go.WideMaps
theorem num_some {S : TS} {i : Int} {n : Nat} (h : S.num i = some n) : i = (n : Int) ∧ ∃ c, S.cm n = some c := by
  unfold TS.num at h
  split at h
  · rename_i hh
    cases h
    refine ⟨by omega, ?_⟩
    cases e : S.cm i.toNat with
    | none => rw [e] at hh; simp at hh
    | some c => exact ⟨c, rfl⟩
  · cases h
section
variable {B tb mn mh mk : Nat} {who : Own} {cb : Nat → Nat}
/-- What 'Import' does. -/
def ImpP (w : World) (B tb mn mh mk : Nat) (who : Own) (cb : Nat → Nat) (S : TS) (name : Bs) (i : Int) (e : Ending) (w' : World) : Prop :=
  (∃ r, e = .returned (.tuple #[.int .i64 0, .slice none 0 0, .int .i64 r]) ∧ ((S.num i = none ∧ r = 8) ∨ ∃ org n0, S.num i = some org ∧ S.nm false name = some n0 ∧ Up S org n0 ∧ r = 9) ∧ Tb w' B tb mn mh mk who cb S ∧ Stp who who w w') ∨
    ∃ org who' cb' o cap S' L, S.num i = some org ∧ OrgOk S name org ∧ e = .returned (.tuple #[.int .i64 (S'.last : Int), .slice o L.length cap, .int .i64 0]) ∧ AddR S name org S' L ∧ Tb w' B tb mn mh mk who' cb' S' ∧ IR w' B who' (.slice o L.length cap) (srtI (L.map (fun k : Nat => (k : Int)))) ∧ Stp who who' w w'
set_option maxRecDepth 100000 in
set_option maxHeartbeats 1600000 in
theorem Import_any {S : TS} {w : World} (h : Tb w B tb mn mh mk who cb S) (hW : WF S) (hl : S.last ≤ 800000) (he : S.epoch ≤ 800000) (name : Bs) (hnl : name.length ≤ 100000) (i : Int) (hi : (Lit.int .i64 i).wf = true) :
    Calls Tryz.prog 11 #[.pointer (some ⟨tb, 0, none⟩), .string ⟨name.toArray⟩, .int .i64 i] w (ImpP w B tb mn mh mk who cb S name i) := by
  have c0 := h.cells.1
  have c2 := h.cells.2.2.1
  have hk : name.length ≤ maxLen := by unfold maxLen; omega
  have hl1 := h.lookName false (k := name) hk
  rw [show kindB mn mh false = mn from rfl] at hl1
  have hl2 := h.lookNum hi
  cases hn : S.num i with
  | none =>
    rw [hn] at hl2
    simp only [ptrM, Option.map_none] at hl2
    have H := Lib.hid h
    clear h hl1
    go_enter Tryz.func11, Tryz.ntmps11
    go_wp2_with fail
    go_ret3
    exact .inl ⟨8, rfl, .inl ⟨hn, rfl⟩, by first | exact H.out | exact H.out.low (Below.refl _ _).drew, by first | exact Stp.refl _ _ | exact Stp.of_below (Below.refl _ _).drew⟩
  | some org =>
    rw [hn] at hl2
    simp only [ptrM, Option.map_some] at hl2
    obtain ⟨hie, dO, hdO⟩ := num_some hn
    have hpos := (hW.pos org dO hdO).1
    have H := Lib.hid (And.intro h (And.intro hW (And.intro hl he)))
    have HN := Lib.hid (And.intro hn hdO)
    have AD : Hid (OrgOk S name org → Calls Tryz.prog 42 #[.pointer (some ⟨tb, 0, none⟩), .string ⟨name.toArray⟩, .pointer (some ⟨cb org, 0, none⟩)] w (AddP w B tb mn mh mk who S name org)) := fun ho => by
      have := add_any h hW hl he name hnl org ho
      rw [ptrO_some (by omega)] at this
      exact this
    clear h hW hdO hl he hn hie
    go_enter Tryz.func11, Tryz.ntmps11
    go_wp2_with fail
    go_loopg [9] org (fun g q wr => wr = w ∧ ∃ a : Nat, a ≤ g ∧ q = ptrO cb a ∧ (a = 0 ∨ ∃ d, S.cm a = some d) ∧ ∀ n0, S.nm false name = some n0 → (a ≠ 0 → Up S a n0 → Up S org n0) ∧ (Up S org n0 → a ≠ 0 ∧ Up S a n0))
    case atStart => exact ⟨rfl, org, Nat.le_refl _, by rw [ptrO_some (by omega)], .inr ⟨dO, HN.out.2⟩, fun n0 _ => ⟨fun _ h => h, fun h => ⟨by omega, h⟩⟩⟩
    case round =>
      obtain ⟨rfl, a, ha, rfl, hd, hup⟩ := hrel
      have HU := Lib.hid (And.intro ha hup)
      by_cases haz : a = 0
      · subst haz
        rw [show ptrO cb 0 = .pointer none from rfl]
        have HOK : Hid (OrgOk S name org) := .inr ⟨⟨dO, HN.out.2⟩, fun n0 hn0 hu => ((hup n0 hn0).2 hu).1 rfl⟩
        clear hd hup ha
        go_wp2_with (go_at_call 42; refine (AD.out HOK.out).mono ?_; rintro e w2 ⟨who', cb', o, cap, S', L, rfl, hA, hT, hI, hS⟩; have H2 := Lib.hid (And.intro hA (And.intro hT (And.intro hI hS))); clear hA hT hI hS)
        go_ret3
        exact .inr ⟨org, who', cb', o, cap, S', L, HN.out.1, HOK.out, rfl, H2.out⟩
      · obtain ⟨d, hd⟩ := hd.resolve_left haz
        rw [ptrO_some haz]
        have q3 := (H.out.1.cmd a d hd).cells.2.2.2.1
        have hstep : d.org ≠ 0 → ∃ d', S.cm d.org = some d' ∧ d.org < a := fun h0 => by
          obtain ⟨p, hp, _, hlt⟩ := H.out.2.1.org a d hd h0
          exact ⟨p, hp, hlt⟩
        have horg0 : d.org ≤ a - 1 := by
          by_cases h0 : d.org = 0
          · omega
          · obtain ⟨_, _, hlt⟩ := hstep h0; omega
        have HQ : Hid (d.org ≤ a - 1 ∧ (d.org = 0 ∨ ∃ d', S.cm d.org = some d')) := ⟨horg0, by by_cases h0 : d.org = 0; exact .inl h0; exact .inr (by obtain ⟨p, hp, _⟩ := hstep h0; exact ⟨p, hp⟩)⟩
        cases hn0 : S.nm false name with
        | none =>
          rw [hn0] at hl1
          simp only [ptrM, Option.map_none] at hl1
          have hE : ∀ W, (binOp .eql 60 (.pointer (some ⟨cb a, 0, none⟩)) (.pointer none)).run Tryz.prog W = .ok (.bool false) W := fun W => ptr_nil _ W
          generalize hqo : ptrO cb d.org = qo at q3
          have HQO := Lib.hid hqo
          clear hd hup ha hstep hqo horg0
          go_wp2_with fail
          go_roundg (gk - 1)
          case measure => have := HU.out.1; omega
          case rel => exact ⟨rfl, d.org, by have := HU.out.1; have := HQ.out.1; omega, HQO.out.symm, HQ.out.2, fun n0 e => by rw [hn0] at e; cases e⟩
        | some n0 =>
          rw [hn0] at hl1
          simp only [ptrM, Option.map_some] at hl1
          obtain ⟨c, hc, _⟩ := (H.out.2.1.names _ _ _).1 hn0
          by_cases han : a = n0
          · subst han
            have hE : ∀ W, (binOp .eql 60 (.pointer (some ⟨cb a, 0, none⟩)) (.pointer (some ⟨cb a, 0, none⟩))).run Tryz.prog W = .ok (.bool true) W := fun W => ptr_same _ W
            have HB : Hid (Up S org a) := (hup a hn0).1 haz (.refl a)
            clear hd hup ha hstep horg0 q3 hc
            go_wp2_with fail
            go_ret3
            exact .inl ⟨9, rfl, .inr ⟨org, a, HN.out.1, hn0, HB.out, rfl⟩, H.out.1, Stp.refl _ _⟩
          · have hE : (binOp .eql 60 (.pointer (some ⟨cb a, 0, none⟩)) (.pointer (some ⟨cb n0, 0, none⟩))).run Tryz.prog wr = .ok (.bool false) wr := ptr_other (H.out.1.isC hd) (H.out.1.isC hc) (fun e => han (H.out.1.inj hd hc e))
            have HUP : Hid (d.org ≠ 0 → Up S d.org n0 → Up S org n0) := fun h0 hu => (hup n0 hn0).1 haz (.step hd h0 hu)
            have HUQ : Hid (Up S org n0 → d.org ≠ 0 ∧ Up S d.org n0) := fun hu => by
              have h1 := ((hup n0 hn0).2 hu).2
              cases h1 with
              | refl => exact absurd rfl han
              | step h h0 k => rw [hd] at h; cases h; exact ⟨h0, k⟩
            generalize hqo : ptrO cb d.org = qo at q3
            have HQO := Lib.hid hqo
            clear hd hup ha hstep hqo horg0 hc
            go_wp2_with fail
            go_roundg (gk - 1)
            case measure => have := HU.out.1; omega
            case rel => exact ⟨rfl, d.org, by have := HU.out.1; have := HQ.out.1; omega, HQO.out.symm, HQ.out.2, fun n1 e => by rw [hn0] at e; cases e; exact ⟨HUP.out, HUQ.out⟩⟩
end
end Go.Proofs.YtbbbenjakjejmaaGreat
namespace Go.Proofs.YtbbbenjakjejmaaGreat
set_option linter.unusedVariables false
set_option linter.unusedSimpArgs false
open Go.RowKit Go.MapKept Go.WideMaps
theorem neq_nil (c : Nat) (W : World) : (binOp .neq 60 (.pointer (some ⟨c, 0, none⟩)) (.pointer none)).run Tryz.prog W = .ok (.bool true) W := by kernel_rfl
theorem up_snoc {S : TS} {a b : Nat} {d : Cm} (h : Up S a b) (hd : S.cm b = some d) (h0 : d.org ≠ 0) : Up S a d.org := by
  induction h with
  | refl n => exact .step hd h0 (.refl _)
  | step h h1 k ih => exact .step h h1 (ih hd)
section
variable {w : World} {B tb mn mh mk : Nat} {who : Own} {cb : Nat → Nat} {S : TS}
theorem Tb.count (h : Tb w B tb mn mh mk who cb S) (hW : WF S) : ∃ es clock, w.heap[mk]? = some (.map es clock) ∧ es.size = S.cnt := by
  obtain ⟨es, clock, hb, hs, hkeys, hg⟩ := h.numbers
  refine ⟨es, clock, hb, ?_⟩
  have h1 : (es.toList.map (·.key)).Nodup := List.pairwise_map.2 ((stamped_iff es clock).1 hs).2.2
  have h2 : (S.keys.map fun n : Nat => iv (n : Int)).Nodup := by
    refine List.pairwise_map.2 (S.keys_nodup.imp fun {a b} hab e => hab ?_)
    have := iv_inj _ _ e
    omega
  have hp : (es.toList.map (·.key)).Perm (S.keys.map fun n : Nat => iv (n : Int)) := by
    refine (List.perm_ext_iff_of_nodup h1 h2).2 fun x => ?_
    rw [List.mem_map, List.mem_map]
    constructor
    · rintro ⟨e, he, rfl⟩
      obtain ⟨k, l, hk, _⟩ := hkeys e he
      have hv : (S.num k).map (fun n => ptrC (cb n)) = some e.val := (hg k e.val).2 ⟨e, he, hk, rfl⟩
      cases hn : S.num k with
      | none => rw [hn] at hv; cases hv
      | some n =>
        obtain ⟨rfl, c, hc⟩ := num_some hn
        exact ⟨n, (hW.mem_keys n).2 (by rw [hc]; rfl), hk.symm⟩
    · rintro ⟨n, hn, rfl⟩
      have hcs := (hW.mem_keys n).1 hn
      have hnum : S.num (n : Int) = some n := by unfold TS.num; simp [hcs]
      obtain ⟨e, he, hk, _⟩ := (hg (n : Int) (ptrC (cb n))).1 (by show (S.num (n : Int)).map _ = _; rw [hnum]; rfl)
      exact ⟨e, he, hk⟩
  have := hp.length_eq
  simpa [TS.cnt] using this
theorem Count_any (h : Tb w B tb mn mh mk who cb S) (hW : WF S) : Calls Tryz.prog 40 #[.pointer (some ⟨tb, 0, none⟩)] w fun e w' => e = .returned (.int .i64 (S.cnt : Int)) ∧ w = w' := by
  have c2 := h.cells.2.2.1
  obtain ⟨es, clock, hb, hsz⟩ := h.count hW
  have hlen : ∀ ty, (Builtin.len_ #[44] ty #[.map (some mk)]).run Tryz.prog w = .ok (.int .i64 (S.cnt : Int)) w := fun ty => by
    rw [run_len_map _ _ _ _ _ _ (by kernel_rfl) hb, hsz]
    rfl
  clear h hb hsz
  go_enter Tryz.func40, Tryz.ntmps40
  go_wp2_with fail
  go_ret
  exact ⟨rfl, rfl⟩
theorem Name_none (h : Tb w B tb mn mh mk who cb S) {i : Int} (hi : (Lit.int .i64 i).wf = true) (hn : S.num i = none) : Calls Tryz.prog 25 #[.pointer (some ⟨tb, 0, none⟩), .int .i64 i] w fun e w' => e = .returned (.tuple #[.string ⟨#[]⟩, .bool false, .bool false]) ∧ w = w' := by
  have AT := Lib.hid (at_any h hi)
  rw [hn] at AT
  simp only [ptrM, Option.map_none] at AT
  clear h
  go_enter Tryz.func25, Tryz.ntmps25
  go_wp2_with (go_at_call 44; refine AT.out.mono ?_; rintro e w2 ⟨rfl, rfl⟩)
  go_ret3
  exact ⟨rfl, rfl⟩
theorem Imports_none (h : Tb w B tb mn mh mk who cb S) {i : Int} (hi : (Lit.int .i64 i).wf = true) (hn : S.num i = none) : Calls Tryz.prog 27 #[.pointer (some ⟨tb, 0, none⟩), .int .i64 i] w fun e w' => e = .returned (.slice none 0 0) ∧ w = w' := by
  have AT := Lib.hid (at_any h hi)
  rw [hn] at AT
  simp only [ptrM, Option.map_none] at AT
  clear h
  go_enter Tryz.func27, Tryz.ntmps27
  go_wp2_with (go_at_call 44; refine AT.out.mono ?_; rintro e w2 ⟨rfl, rfl⟩)
  go_ret
  exact ⟨rfl, rfl⟩
set_option maxRecDepth 100000 in
set_option maxHeartbeats 800000 in
theorem Origin_any (h : Tb w B tb mn mh mk who cb S) (hW : WF S) {i : Int} (hi : (Lit.int .i64 i).wf = true) {n : Nat} (hn : S.num i = some n) : Calls Tryz.prog 13 #[.pointer (some ⟨tb, 0, none⟩), .int .i64 i] w fun e w' => ∃ (r : Nat) (c : Cm), e = .returned (.tuple #[.int .i64 (r : Int), .int .i64 0]) ∧ S.cm r = some c ∧ c.org = 0 ∧ Up S n r ∧ w = w' := by
  have AT := Lib.hid (at_any h hi)
  rw [hn] at AT
  simp only [ptrM, Option.map_some] at AT
  obtain ⟨hie, c0, hc0⟩ := num_some hn
  have H := Lib.hid (And.intro h hW)
  have H0 := Lib.hid hc0
  have hE0 : ∀ W, (binOp .eql 60 (.pointer (some ⟨cb n, 0, none⟩)) (.pointer none)).run Tryz.prog W = .ok (.bool false) W := fun W => ptr_nil _ W
  clear h hW hc0 hie
  go_enter Tryz.func13, Tryz.ntmps13
  go_wp2_with (go_at_call 44; refine AT.out.mono ?_; rintro e w2 ⟨rfl, rfl⟩)
  go_loopg [6] n (fun g q wr => wr = w ∧ ∃ a d, a ≤ g ∧ q = .pointer (some ⟨cb a, 0, none⟩) ∧ S.cm a = some d ∧ Up S n a)
  case atStart => exact ⟨rfl, n, c0, Nat.le_refl _, rfl, H0.out, .refl _⟩
  case round =>
    obtain ⟨rfl, a, d, ha, rfl, hd, hu⟩ := hrel
    have q := (H.out.1.cmd a d hd).cells
    have q0 := q.1
    have q3 := q.2.2.2.1
    have HU := Lib.hid (And.intro hd (And.intro hu ha))
    by_cases h0 : d.org = 0
    · rw [h0, show ptrO cb 0 = .pointer none from rfl] at q3
      clear q hd hu ha
      go_wp2_with fail
      go_ret2
      exact ⟨a, d, rfl, HU.out.1, h0, HU.out.2.1, rfl⟩
    · rw [ptrO_some h0] at q3
      obtain ⟨p, hp, _, hlt⟩ := H.out.2.org a d hd h0
      have HP : Hid (S.cm d.org = some p ∧ d.org < a ∧ d.org ≠ 0) := ⟨hp, hlt, h0⟩
      have hE : ∀ W, (binOp .neq 60 (.pointer (some ⟨cb d.org, 0, none⟩)) (.pointer none)).run Tryz.prog W = .ok (.bool true) W := fun W => neq_nil _ W
      generalize hco : cb d.org = co at q3 hE
      have HCO := Lib.hid hco
      clear q hd hu ha hp hlt h0 hco
      go_wp2_with fail
      go_roundg (gk - 1)
      case measure => have := HU.out.2.2; have := HP.out.2.1; omega
      case rel => exact ⟨rfl, d.org, p, by have := HU.out.2.2; have := HP.out.2.1; omega, by rw [← HCO.out], HP.out.1, up_snoc HU.out.2.1 HU.out.1 HP.out.2.2⟩
end
end Go.Proofs.YtbbbenjakjejmaaGreat

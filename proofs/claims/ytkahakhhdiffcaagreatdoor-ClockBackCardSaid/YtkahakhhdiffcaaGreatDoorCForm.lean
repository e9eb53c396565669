/- The contract of the clock's 'parts': a form, cut. -/
import Derived.Test.YtkahakhhdiffcaaGreatDoorCLet4
import Derived.Laws.EntriesVeiled
namespace Go.Proofs.YtkahakhhdiffcaaGreatDoor
set_option linter.unusedVariables false
set_option linter.unusedSimpArgs false
open Go.RowKit
open Go.Maps (Keyed)

/-- A part: its text, or its letter. -/
abbrev Part := Bs × UInt8
def Part.cells (p : Part) : List Value := [.string ⟨p.1.toArray⟩, .int .u8 (p.2.toNat : Int)]
def rowP (l : List Part) : List Value := l.flatMap Part.cells
theorem rowP_append (a b : List Part) : rowP (a ++ b) = rowP a ++ rowP b := by simp [rowP]
theorem rowP_len (l : List Part) : (rowP l).length = l.length * 2 := by
  induction l with
  | nil => rfl
  | cons p l ih => simp only [rowP, List.flatMap_cons, List.length_append, Part.cells, List.length_cons, List.length_nil] at ih ⊢; omega
def partD : List Part := [([], 109), ([47], 0), ([], 100), ([47], 0), ([], 89)]
def partT : List Part := [([], 72), ([58], 0), ([], 77), ([58], 0), ([], 83)]
/-- What one letter behind a % stands for. -/
def partC (d : UInt8) : Option (List Part) := if d = 37 then some [([37], 0)] else if d = 68 then some partD else if d = 84 then some partT else if (info (d.toNat : Int)).isSome then some [([], d)] else none
def partsC : Bs → Option (List Part)
  | [] => some []
  | c :: r => if c = 37 then (match r with
      | [] => none
      | d :: r' => match partC d with
        | none => none
        | some x => (partsC r').map (x ++ ·)) else (partsC r).map (([c], 0) :: ·)
theorem partsC_plain {c : UInt8} {r : Bs} (h : c ≠ 37) : partsC (c :: r) = (partsC r).map (([c], 0) :: ·) := by rw [partsC.eq_def]; simp [h]
theorem partsC_end : partsC [37] = none := by decide
theorem partsC_letter (d : UInt8) (r : Bs) : partsC (37 :: d :: r) = match partC d with
        | none => none
        | some x => (partsC r).map (x ++ ·) := by rw [partsC.eq_def]; simp
theorem keys_info : ∀ n : Nat, n < 256 → (((n : Int) ∈ keysC) ↔ (info (n : Int)).isSome = true) := by decide +kernel
theorem key_info (d : UInt8) : ((d.toNat : Int) ∈ keysC ↔ (info (d.toNat : Int)).isSome = true) := keys_info d.toNat d.toNat_lt

/-- The map of letters, as it lies: what each byte leads to. -/
structure Letters (mb : Nat) (W : World) (g : Int → Option Value) : Prop where
  map : MapAt Tryz.prog 5 encU W mb g
  yes : ∀ d : UInt8, (info (d.toNat : Int)).isSome = true → ∃ v, g (d.toNat : Int) = some v ∧ LetterV mb W (d.toNat : Int) v
  no : ∀ d : UInt8, (info (d.toNat : Int)).isSome = false → g (d.toNat : Int) = none
theorem Letters.below {mb : Nat} {W W' : World} {g : Int → Option Value} (h : Letters mb W g) (hb : Below W.heap.size W W') : Letters mb W' g := by
  have hk : ∀ p : Addr, p.block ≠ mb → p.block < W.heap.size → W'.cell? p = W.cell? p := fun p _ hp => hb.cell hp
  refine ⟨h.map.congr (hb.block _ h.map.lt), fun d hd => ?_, h.no⟩
  obtain ⟨v, hv, hl⟩ := h.yes d hd
  exact ⟨v, hv, hl.keep hk⟩
theorem letters_of {w W : World} (h : LS w W keysC) : ∃ g, Letters (w.heap.size + 2) W g := by
  obtain ⟨g, h1, h2, h3⟩ := h.map
  exact ⟨g, h1, fun d hd => h2 _ ((key_info d).2 hd), fun d hd => h3 _ (fun hm => by rw [(key_info d).1 hm] at hd; cases hd)⟩
/-- 'm[k]' with its 'ok'. -/
theorem look2 {P : Program} {kt et t : TypeId} {ι : Type} {enc : ι → Value} {w : World} {b : Nat} {g : ι → Option Value} (h : MapAt P kt enc w b g) (K : Keyed P kt) (ht : P.underlying t = some (.map kt et)) {z : Value} (hz : (zeroValue et).run P w = .ok z w) {k : ι} {l : Lit} (hk : keyOf P kt (enc k) = some l) :
    (Instr.lookup t (.map (some b)) (enc k) true).run P w = .ok (.tuple #[(g k).getD z, .bool (g k).isSome]) w := by
  obtain ⟨es, clock, hb, hs, hkeys, hg⟩ := h
  rcases K.find w hk es.toList (fun e he => by obtain ⟨k', l', _, h⟩ := hkeys e he; exact ⟨l', h⟩) with ⟨h1, h2⟩ | ⟨j, e0, h1, h2, h3⟩
  · have : g k = none := by
      cases hgk : g k with
      | none => rfl
      | some v => obtain ⟨e, he, hke, _⟩ := (hg k v).1 hgk; exact absurd hke (h2 e he)
    rw [this]
    simp [Instr.lookup, run_underlying ht, MapKept.run_getObj_map hb, K.check w _ hk, h1, hz, Result.andThen]
  · have : g k = some e0.val := (hg k e0.val).2 ⟨e0, List.mem_of_getElem? h2, h3, rfl⟩
    rw [this]
    simp [Instr.lookup, run_underlying ht, MapKept.run_getObj_map hb, K.check w _ hk, h1, Result.andThen]
def zeroL : Value := .agg #[.nilFunc, .int .i64 0, .slice none 0 0]
theorem zero_letter (w : World) : (zeroValue 83).run Tryz.prog w = .ok zeroL w := by kernel_rfl
theorem Letters.look {mb : Nat} {W : World} {g : Int → Option Value} (h : Letters mb W g) (d : UInt8) : (Instr.lookup 78 (.map (some mb)) (.int .u8 (d.toNat : Int)) true).run Tryz.prog W = .ok (.tuple #[(g (d.toNat : Int)).getD zeroL, .bool (g (d.toNat : Int)).isSome]) W :=
  look2 h.map Ukeyed Tryz.underlying78 (zero_letter W) (ukey ⟨by omega, by have := d.toNat_lt; omega⟩)
theorem Letters.look1 {mb : Nat} {W : World} {g : Int → Option Value} (h : Letters mb W g) (d : UInt8) : (Instr.lookup 78 (.map (some mb)) (.int .u8 (d.toNat : Int)) false).run Tryz.prog W = .ok ((g (d.toNat : Int)).getD zeroL) W :=
  h.map.look Ukeyed Tryz.underlying78 (zero_letter W) (ukey ⟨by omega, by have := d.toNat_lt; omega⟩)
theorem letter_shape {mb : Nat} {W : World} {c : Int} {v : Value} (h : LetterV mb W c v) : ∃ dig fn fcap ao len cp, v = .agg #[.func fn #[] fcap, .int .i64 dig, .slice ao len cp] := by
  obtain ⟨i, f, n, _, rfl, hf, hn⟩ := h
  have h1 : ∃ fn fcap, f = .func fn #[] fcap := by
    cases hd : i.direct with
    | true => rw [hd] at hf; exact ⟨_, _, hf⟩
    | false => rw [hd] at hf; obtain ⟨a, _, h, _⟩ := hf; exact ⟨_, _, h⟩
  have h2 : ∃ ao len cp, n = .slice ao len cp := by
    rcases hn with ⟨_, h⟩ | ⟨b, cap, _, h, _, _⟩
    · exact ⟨_, _, _, h⟩
    · exact ⟨_, _, _, h⟩
  obtain ⟨fn, fcap, rfl⟩ := h1
  obtain ⟨ao, len, cp, rfl⟩ := h2
  exact ⟨_, _, _, _, _, _, rfl⟩
theorem Tryz.infoPartC : (Tryz.prog.info? 81).map (fun i => (i.zero, i.size, i.bytes)) = some (some (.agg #[.string ByteArray.empty, .int .u8 0]), 2, 24) := by kernel_rfl
theorem u8_ne {a : UInt8} {k : Nat} (hk : k < 256) (h : a ≠ UInt8.ofNat k) : (((a.toNat : Int)) == (k : Int)) = false := by
  rw [beq_eq_false_iff_ne]
  intro e
  apply h
  apply UInt8.toNat_inj.1
  have : a.toNat = k := by omega
  rw [this]; simp [UInt8.toNat_ofNat']; omega

set_option maxRecDepth 100000 in
set_option maxHeartbeats 3200000 in
theorem parts_any (s : Bs) (hs : s.length ≤ 100000) (w : World) (hT : SpaceIs w) :
    Calls Tryz.prog 33 #[.string ⟨s.toArray⟩] w fun e w' => Below w.heap.size w w' ∧ ((partsC s = none ∧ e = .returned (.tuple #[.slice none 0 0, .bool false])) ∨ ∃ l v base, partsC s = some l ∧ e = .returned (.tuple #[v, .bool true]) ∧ w.heap.size ≤ base ∧ w'.ownsRow base 81 2 v l.length (rowP l) ∧ l.length ≤ 5 * s.length) := by
  have HL := Lib.hid (letters_any w hT)
  clear hT
  go_enter Tryz.func33, Tryz.ntmps33
  go_wp2_with (go_at_call 34; refine HL.out.mono ?_; rintro e w1 ⟨rfl, hls⟩)
  have HB0 := Lib.hid hls.below
  obtain ⟨g, hg⟩ := letters_of hls
  have HG := Lib.hid hg
  clear hg hls
  go_loopw [4, 6, 7, 8, 9] (fun v4 v6 v7 v8 v9 wr => ∃ (k : Nat) (acc : List Part), v6 = .int .i64 k ∧ k ≤ s.length ∧ wr.ownsRow w1.heap.size 81 2 v4 acc.length (rowP acc) ∧ Below w1.heap.size w1 wr ∧ acc.length ≤ 5 * k ∧ Hid (partsC s = (partsC (s.drop k)).map (acc ++ ·))) (fun _ v6 _ _ _ _ => s.length - (intOf v6).toNat)
  case atStart => exact ⟨0, [], by go_num, Nat.zero_le _, World.ownsRow_nil _ _ _ _, Below.refl _ _, by simp, by show _ = _; simp⟩
  case round =>
    obtain ⟨k, acc, rfl, hk, hown, hbw, hal, HP⟩ := hrel
    have HG1 := Lib.hid (HG.out.below hbw)
    by_cases hlt : k < s.length
    · obtain ⟨c, hck⟩ : ∃ c, s[k] = c := ⟨_, rfl⟩
      have hdrop : s.drop k = c :: s.drop (k + 1) := by rw [← hck]; exact List.drop_eq_getElem_cons hlt
      have hx1 : (s.drop k).take 1 = [c] := by rw [hdrop]; rfl
      by_cases hc : c = 37
      · subst hc
        have t37 : ((((37 : UInt8).toNat : Int)) == 37) = true := rfl
        by_cases hlt2 : k + 1 < s.length
        · obtain ⟨d, hdk⟩ : ∃ d, s[k + 1] = d := ⟨_, rfl⟩
          have hdrop2 : s.drop (k + 1) = d :: s.drop (k + 2) := by rw [← hdk]; exact List.drop_eq_getElem_cons hlt2
          have HP2 : Hid (partsC s = match partC d with
              | none => none
              | some x => (partsC (s.drop (k + 2))).map ((acc ++ x) ++ ·)) := by
            show _ = _
            rw [HP.out, hdrop, hdrop2, partsC_letter]
            cases partC d with
            | none => rfl
            | some x => simp [Option.map_map, Function.comp_def]
          have hne2 : (((k : Int) + 1) == (s.length : Int)) = false := by rw [beq_eq_false_iff_ne]; omega
          by_cases h37 : d = 37
          · subst h37
            have HPP : Hid (partsC s = (partsC (s.drop (k + 2))).map ((acc ++ [([37], 0)]) ++ ·)) := HP2.out
            clear HP2 hdrop hdrop2 hx1
            go_wp2_with (at_builtin; refine wpList_pushM rfl _ _ 75 rfl w1.heap.size 81 _ 2 24 1 Tryz.underlying75 Tryz.infoPartC rfl (by decide) (by decide) _ acc.length (rowP acc) rfl hown (rowP [([37], 0)]) rfl (wr.heap.size) rfl rfl rfl (by unfold maxLen; omega) (by omega) hbw.size ?_; intro g' cap w2 hg' hown2 hb2 hok2)
            go_roundw
            case rel => exact ⟨k + 2, acc ++ [([37], 0)], by go_num, by omega, by rw [rowP_append, List.length_append]; exact hown2, hbw.trans hb2, by simp; omega, HPP⟩
            case measure => simp [intOf]; omega
          · by_cases h68 : d = 68
            · subst h68
              have HPP : Hid (partsC s = (partsC (s.drop (k + 2))).map ((acc ++ partD) ++ ·)) := HP2.out
              clear HP2 hdrop hdrop2 hx1
              go_wp2_with (at_builtin; refine wpList_pushM rfl _ _ 75 rfl w1.heap.size 81 _ 2 24 5 Tryz.underlying75 Tryz.infoPartC rfl (by decide) (by decide) _ acc.length (rowP acc) rfl hown (rowP partD) rfl (wr.heap.size) rfl rfl rfl (by unfold maxLen; omega) (by omega) hbw.size ?_; intro g' cap w2 hg' hown2 hb2 hok2)
              go_roundw
              case rel => exact ⟨k + 2, acc ++ partD, by go_num, by omega, by rw [rowP_append, List.length_append]; exact hown2, hbw.trans hb2, by simp [partD]; omega, HPP⟩
              case measure => simp [intOf]; omega
            · by_cases h84 : d = 84
              · subst h84
                have HPP : Hid (partsC s = (partsC (s.drop (k + 2))).map ((acc ++ partT) ++ ·)) := HP2.out
                clear HP2 hdrop hdrop2 hx1
                go_wp2_with (at_builtin; refine wpList_pushM rfl _ _ 75 rfl w1.heap.size 81 _ 2 24 5 Tryz.underlying75 Tryz.infoPartC rfl (by decide) (by decide) _ acc.length (rowP acc) rfl hown (rowP partT) rfl (wr.heap.size) rfl rfl rfl (by unfold maxLen; omega) (by omega) hbw.size ?_; intro g' cap w2 hg' hown2 hb2 hok2)
                go_roundw
                case rel => exact ⟨k + 2, acc ++ partT, by go_num, by omega, by rw [rowP_append, List.length_append]; exact hown2, hbw.trans hb2, by simp [partT]; omega, HPP⟩
                case measure => simp [intOf]; omega
              · have b37 := u8_ne (k := 37) (by decide) h37
                have b68 := u8_ne (k := 68) (by decide) h68
                have b84 := u8_ne (k := 84) (by decide) h84
                have hlook := HG1.out.look d
                cases hi : (info (d.toNat : Int)).isSome with
                | false =>
                  have HPP : Hid (partsC s = none) := by
                    have e : partC d = none := by simp [partC, h37, h68, h84, hi]
                    show _ = _; rw [HP2.out, e]
                  rw [HG1.out.no d hi] at hlook
                  simp only [Option.getD_none, Option.isSome_none, zeroL] at hlook
                  clear HP2 hdrop hdrop2 hx1 h37 h68 h84 hi
                  go_wp2_with fail
                  go_ret2
                  exact ⟨HB0.out.trans ((hbw.alloc hbw.size _).mono HB0.out.size), .inl ⟨HPP.out, rfl⟩⟩
                | true =>
                  have HPP : Hid (partsC s = (partsC (s.drop (k + 2))).map ((acc ++ [([], d)]) ++ ·)) := by
                    have e : partC d = some [([], d)] := by simp [partC, h37, h68, h84, hi]
                    show _ = _; rw [HP2.out, e]
                  obtain ⟨v, hv, hlv⟩ := HG1.out.yes d hi
                  obtain ⟨dig, fn, fcap, ao, len, cp, rfl⟩ := letter_shape hlv
                  rw [hv] at hlook
                  simp only [Option.getD_some, Option.isSome_some] at hlook
                  clear HP2 hdrop hdrop2 hx1 h37 h68 h84 hi hlv hv
                  have hown1 := hown.alloc (.cells #[.func fn #[] fcap, .int .i64 dig, .slice ao len cp] 83)
                  go_wp2_with (at_builtin; refine wpList_pushM rfl _ _ 75 rfl w1.heap.size 81 _ 2 24 1 Tryz.underlying75 Tryz.infoPartC rfl (by decide) (by decide) _ acc.length (rowP acc) rfl hown1 (rowP [([], d)]) rfl (wr.heap.size + 1) (by simp) rfl rfl (by unfold maxLen; omega) (by omega) (Nat.le_trans hbw.size (by simp)) ?_; intro g' cap w2 hg' hown2 hb2 hok2)
                  go_roundw
                  case rel => exact ⟨k + 2, acc ++ [([], d)], by go_num, by omega, by rw [rowP_append, List.length_append]; exact hown2, (hbw.alloc hbw.size _).trans hb2, by simp; omega, HPP⟩
                  case measure => simp [intOf]; omega
        · have hk1 : k + 1 = s.length := by omega
          have HPP : Hid (partsC s = none) := by
            have e : s.drop (k + 1) = [] := List.drop_eq_nil_of_le (by omega)
            show _ = _; rw [HP.out, hdrop, e, partsC_end]; rfl
          have heq2 : (((k : Int) + 1) == (s.length : Int)) = true := by rw [beq_iff_eq]; omega
          clear hdrop hx1
          go_wp2_with fail
          go_ret2
          exact ⟨HB0.out.trans (hbw.mono HB0.out.size), .inl ⟨HPP.out, rfl⟩⟩
      · have HPP : Hid (partsC s = (partsC (s.drop (k + 1))).map ((acc ++ [([c], 0)]) ++ ·)) := by
          show _ = _
          rw [HP.out, hdrop, partsC_plain hc]
          simp [Option.map_map, Function.comp_def]
        have t37 := u8_ne (k := 37) (by decide) hc
        clear hdrop hc
        go_wp2_with (at_builtin; refine wpList_pushM rfl _ _ 75 rfl w1.heap.size 81 _ 2 24 1 Tryz.underlying75 Tryz.infoPartC rfl (by decide) (by decide) _ acc.length (rowP acc) rfl hown (rowP [([c], 0)]) rfl (wr.heap.size) rfl rfl rfl (by unfold maxLen; omega) (by omega) hbw.size ?_; intro g' cap w2 hg' hown2 hb2 hok2)
        go_roundw
        case rel => exact ⟨k + 1, acc ++ [([c], 0)], by go_num, by omega, by rw [rowP_append, List.length_append]; exact hown2, hbw.trans hb2, by simp; omega, HPP⟩
        case measure => simp [intOf]; omega
    · have hk1 : k = s.length := by omega
      have HPP : Hid (partsC s = some acc) := by
        have e : s.drop k = [] := List.drop_eq_nil_of_le (by omega)
        show _ = _; rw [HP.out, e]; simp [partsC]
      go_wp2_with fail
      go_ret2
      exact ⟨HB0.out.trans (hbw.mono HB0.out.size), .inr ⟨acc, _, w1.heap.size, HPP.out, rfl, HB0.out.size, hown, by omega⟩⟩
end Go.Proofs.YtkahakhhdiffcaaGreatDoor

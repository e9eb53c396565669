/- 'SetSearch' of the reference's tree (printed by mkNR.py). -/
import Derived.Test.YtjgdfgpnmmkjfaaGreatDoorNRMk2
namespace Go.Proofs.YtjgdfgpnmmkjfaaGreatDoor
set_option linter.unusedVariables false
set_option linter.unusedSimpArgs false
open Go.RowKit Go.MapKept

/-- A node told anew. -/
theorem RTr.setNode {w w' : World} {B yb : Nat} {who who' : Own} {nd : Bs → Option Nat} {S : Bs → Option ND} {l : List Bs} (h : RTr w B yb who nd S l) {k : Bs} {b : Nat} {n' : ND} (hb : nd k = some b) (hs : w.heap.size ≤ w'.heap.size)
    (hk : ∀ j t, who j = some t → (t.1 < 2 ∨ t.2 ≠ k) → w'.heap[j]? = w.heap[j]?) (hw : ∀ j t, who j = some t → who' j = some t) (hN : RNodeAt w' B who' k b n') (hlo : ∀ j, who' j ≠ none → B ≤ j ∧ j < w'.heap.size) : RTr w' B yb who' nd (setS S k n') l := by
  obtain ⟨lv, h1, h2, h3⟩ := h.cel
  refine ⟨⟨lv, (hk yb _ h.wyb (.inl (by decide))).trans h1, row_keep h2 (fun g hg => hk g _ (h3 g hg) (.inl (by decide))), fun g hg => hw _ _ (h3 g hg)⟩, fun q => ?_, h.nodup, hw _ _ h.wyb, fun q => ?_, fun q b' n hq hS => ?_, hlo⟩
  · unfold setS
    by_cases hqk : q = k
    · obtain ⟨n, hn, _⟩ := h.has hb
      rw [if_pos hqk, hqk, h.mem k, hn]; simp
    · rw [if_neg hqk]; exact h.mem q
  · unfold setS
    by_cases hqk : q = k
    · rw [if_pos hqk, hqk, hb]; rfl
    · rw [if_neg hqk]; exact h.same q
  · unfold setS at hS
    by_cases hqk : q = k
    · subst hqk
      rw [if_pos rfl] at hS; cases hS
      rw [hb] at hq; cases hq
      exact hN
    · rw [if_neg hqk] at hS
      have hN' := h.node q b' n hq hS
      exact hN'.keep (hk b' _ hN'.1 (.inr hqk)) (fun j hj => hk j _ hj (.inr hqk)) (fun j hj => hk j _ hj (.inr hqk)) hw
/-- A node's search set to a new row. -/
theorem RTr.search {w w1 : World} {B yb : Nat} {who : Own} {nd : Bs → Option Nat} {S : Bs → Option ND} {l : List Bs} (h : RTr w B yb who nd S l) {k : Bs} {b : Nat} {n : ND} (hb : nd k = some b) (hS : S k = some n) (hB : Below w.heap.size w w1)
    {v : Value} {L : List Bs} (hv : w1.ownsRow w.heap.size 9 1 v L.length (L.map sv)) :
    RTr (w1.setCell ⟨b, 1, none⟩ v) B yb (ownV who v (3, k)) nd (setS S k { n with search := L }) l ∧ Stp who (ownV who v (3, k)) w (w1.setCell ⟨b, 1, none⟩ v) := by
  have hids := row_ids hv
  have hmono : ∀ j t, who j = some t → ownV who v (3, k) j = some t := fun j t hj => by
    unfold ownV
    rw [if_neg]
    · exact hj
    · intro hg
      have := (hids j hg).1
      have := (h.lo j (by rw [hj]; simp)).2
      omega
  have h1 := h.low hB
  have hN := h1.node k b n hb hS
  obtain ⟨hwb, vs, ve, hc, r1, r2, r3, r4⟩ := hN
  have hbl := (h.lo b (by rw [hwb]; simp)).2
  have hset : ∀ j, j ≠ b → (w1.setCell ⟨b, 1, none⟩ v).heap[j]? = w1.heap[j]? := fun j hj => Below.heap_setCell w1 ⟨b, 1, none⟩ v j hj
  have hsz : (w1.setCell ⟨b, 1, none⟩ v).heap.size = w1.heap.size := by simp [World.setCell]
  refine ⟨h1.setNode hb (Nat.le_of_eq hsz.symm) (fun j t hj ht => hset j ?_) hmono ⟨hmono _ _ hwb, v, ve, heap_setCell_same w1 b 1 _ _ v hc, row_base (row_keep hv (fun g hg => hset g (by have := (hids g hg).1; omega))) h.base, fun g hg => if_pos hg, row_keep r3 (fun g hg => hset g (by rintro rfl; have := r4 _ hg; rw [hwb] at this; cases this)), fun g hg => hmono _ _ (r4 g hg)⟩ (fun j hj => ?_), ⟨⟨hB.os, hB.tape, hB.output, by rw [hsz]; exact hB.size, fun j hj hn => ?_⟩, fun j hj => ?_⟩⟩
  · rintro rfl
    rw [hwb] at hj
    cases hj
    rcases ht with ht | ht
    · omega
    · exact ht rfl
  · unfold ownV at hj
    by_cases hg : v.ownBlock = some j
    · have := hids j hg
      have := h.base
      rw [hsz]; omega
    · rw [if_neg hg] at hj
      have := h1.lo j hj
      rw [hsz]; exact this
  · rw [hset j (by rintro rfl; rw [hwb] at hn; cases hn)]
    exact hB.block j hj
  · unfold ownV
    rw [if_neg (fun hg => by have := (hids j hg).1; omega)]
set_option maxRecDepth 100000 in
set_option maxHeartbeats 1600000 in
theorem rSetSearch_any {w : World} {B yb : Nat} {who : Own} {nd : Bs → Option Nat} {S : Bs → Option ND} {l : List Bs} (h : RTr w B yb who nd S l) (hll : l.length ≤ 1000000) (path : Bs) (hp : path.length ≤ 100000) (L : List Bs) (hL : ∀ p ∈ L, p.length ≤ 100000) (hn : L.length ≤ 100000) {v : Value} (hv : TxtRow w v L) :
    Calls Tryz.prog 26 #[.pointer (some ⟨yb, 0, none⟩), .string ⟨path.toArray⟩, v] w fun e w' => e = .returned (.int .i64 (srchS S path L).1) ∧ ∃ who' nd' l', RTr w' B yb who' nd' (srchS S path L).2 l' ∧ Stp who who' w w' := by
  obtain ⟨ao, ac, rfl⟩ := hv.len
  have AT : Hid (∀ W, Below w.heap.size w W → ∀ p : Bs, p.length ≤ 100000 → Calls Tryz.prog 56 #[.pointer (some ⟨yb, 0, none⟩), .string ⟨p.toArray⟩] W fun e w' => e = .returned (ptrN (nd (canonN rootN p))) ∧ Below W.heap.size W w') := fun W hb p hp => rat_any (h.low hb) hll p hp
  have A0 := AT.out w (Below.refl _ _) path hp
  unfold srchS
  cases hnd : nd (canonN rootN path) with
  | none =>
    rw [h.none_of hnd]
    rw [hnd] at A0
    have A1 : Hid (Calls Tryz.prog 56 #[.pointer (some ⟨yb, 0, none⟩), .string ⟨path.toArray⟩] w fun e w' => e = .returned (.pointer none) ∧ Below w.heap.size w w') := A0
    have H := Lib.hid h
    clear h hv AT A0 hnd hL hp
    go_enter Tryz.func26, Tryz.ntmps26
    go_wp2_with (go_at_call 56; refine A1.out.mono ?_; rintro e w2 ⟨rfl, hB⟩; have HB := Lib.hid hB; clear hB)
    go_ret
    exact ⟨rfl, who, nd, l, H.out.low HB.out, Stp.of_below HB.out⟩
  | some b =>
    obtain ⟨nn, hS, hN⟩ := h.has hnd
    rw [hS, show (some nn : Option ND) = some nn from rfl]
    rw [hnd] at A0
    have A1 : Hid (Calls Tryz.prog 56 #[.pointer (some ⟨yb, 0, none⟩), .string ⟨path.toArray⟩] w fun e w' => e = .returned (.pointer (some ⟨b, 0, none⟩)) ∧ Below w.heap.size w w') := A0
    obtain ⟨key, hkey⟩ : ∃ key, canonN rootN path = key := ⟨_, rfl⟩
    rw [hkey] at hnd hS hN ⊢
    have CA : Hid (∀ W, ∀ p : Bs, p.length ≤ 100000 → Calls Tryz.prog 58 #[.string ⟨#[58, 58]⟩, .string ⟨p.toArray⟩] W fun e w' => e = .returned (.string ⟨(canonN rootN p).toArray⟩) ∧ Below W.heap.size W w') := fun W p hp => rCanonical_any rootN p (by decide) hp W
    have HALL : Hid ((if allIn S L = true then ((0 : Int), setS S key { nn with search := L.map (canonN rootN) }) else (8, S)) = if allIn S L = true then ((0 : Int), setS S key { nn with search := L.map (canonN rootN) }) else (8, S)) := rfl
    obtain ⟨res, hres⟩ : ∃ res, res = (if allIn S L = true then ((0 : Int), setS S key { nn with search := L.map (canonN rootN) }) else (8, S)) := ⟨_, rfl⟩
    have HRES := Lib.hid hres
    show Calls _ _ _ _ fun e w' => e = .returned (.int .i64 (if allIn S L = true then ((0 : Int), setS S key { nn with search := L.map (canonN rootN) }) else (8, S)).1) ∧ ∃ who' nd' l', RTr w' B yb who' nd' (if allIn S L = true then ((0 : Int), setS S key { nn with search := L.map (canonN rootN) }) else (8, S)).2 l' ∧ Stp who who' w w'
    rw [← hres]
    obtain ⟨n, hnl⟩ : ∃ n, L.length = n := ⟨_, rfl⟩
    have HN := Lib.hid (And.intro hnl (And.intro hnd hS))
    obtain ⟨_, hlc, hcm, hcell⟩ := hv.at_
    rw [hnl] at hlc hn ⊢
    unfold maxLen at hcm
    have HC := Lib.hid hcell
    have H := Lib.hid h
    have HL := Lib.hid hL
    clear HALL hres h hv hcell hL hnl hnd hS hN hkey A0 hp
    go_enter Tryz.func26, Tryz.ntmps26
    go_wp2_with (go_at_call 56; refine A1.out.mono ?_; rintro e w1 ⟨rfl, hB⟩; have HB1 := Lib.hid hB; clear hB)
    go_loopw [18, 8] (fun q o wr => ∃ k : Nat, k ≤ n ∧ q = .int .i64 (k : Int) ∧ wr.ownsRow w.heap.size 9 1 o k ((L.take k).map fun p => sv (canonN rootN p)) ∧ Below w.heap.size w wr ∧ allIn S (L.take k) = true) (fun q _ _ => n - (intOf q).toNat)
    case atStart => exact ⟨0, Nat.zero_le _, rfl, ⟨rfl, .inl ⟨rfl, rfl⟩⟩, HB1.out, rfl⟩
    case round =>
      obtain ⟨k, hk, rfl, hown, hB, hall⟩ := hrel
      have HB := Lib.hid hB
      have HALL := Lib.hid hall
      by_cases hlt : k < n
      · have hkl : k < L.length := by have := HN.out.1; omega
        obtain ⟨gb, off, rfl, hgl, hc0⟩ := HC.out k hkl
        have hc1 : wr.cell? ⟨gb, off + k, none⟩ = some (sv L[k]) := (hB.cell (p := ⟨gb, off + k, none⟩) hgl).trans hc0
        have hpl := HL.out L[k] (List.getElem_mem _)
        have hA := AT.out wr hB L[k] hpl
        have hCA := fun W => CA.out W L[k] hpl
        have htk : L.take (k + 1) = L.take k ++ [L[k]] := List.take_succ_eq_append_getElem hkl
        have HTK : Hid ((L.take (k + 1)).map (fun p => sv (canonN rootN p)) = (L.take k).map (fun p => sv (canonN rootN p)) ++ [sv (canonN rootN L[k])] ∧ allIn S (L.take (k + 1)) = (allIn S (L.take k) && (S (canonN rootN L[k])).isSome) ∧ (allIn S L = true → (S (canonN rootN L[k])).isSome = true)) := by
          refine ⟨?_, ?_, ?_⟩
          · rw [htk, List.map_append]; rfl
          · rw [htk]; unfold allIn; rw [List.all_append]; simp
          · intro ha; exact List.all_eq_true.1 ha _ (List.getElem_mem _)
        have HSO := Lib.hid (H.out.same (canonN rootN L[k]))
        generalize L[k] = p at *
        have hcx : wr.cell? ⟨gb, off + k, none⟩ = some (.string ⟨p.toArray⟩) := hc1
        have i1 : k < n := hlt
        have t0 : decide ((k : Int) < (n : Int)) = true := by rw [decide_eq_true_eq]; omega
        obtain ⟨oo, oc, rfl⟩ := owns_slice hown
        have HO := Lib.hid hown
        have HK := Lib.hid hlt
        cases hx : nd (canonN rootN p) with
        | none =>
          rw [hx] at hA
          have HA : Hid (Calls Tryz.prog 56 #[.pointer (some ⟨yb, 0, none⟩), .string ⟨p.toArray⟩] wr fun e w' => e = .returned (.pointer none) ∧ Below wr.heap.size wr w') := hA
          have HX := Lib.hid hx
          clear hA hCA hown hB hall hc0 hc1 htk hx hlt hk hkl
          go_wp2_with (go_at_call 56; refine HA.out.mono ?_; rintro e w2 ⟨rfl, hB2⟩; have HB2 := Lib.hid hB2; clear hB2)
          go_ret
          have hno : allIn S L ≠ true := fun ha => by
            have h1 := HTK.out.2.2 ha
            have h2 := HSO.out
            rw [HX.out, h1] at h2; simp at h2
          rw [HRES.out, if_neg hno]
          have hb := HB.out.trans (HB2.out.mono HB.out.size)
          exact ⟨rfl, who, nd, l, H.out.low hb, Stp.of_below hb⟩
        | some bb =>
          rw [hx] at hA
          have HA : Hid (Calls Tryz.prog 56 #[.pointer (some ⟨yb, 0, none⟩), .string ⟨p.toArray⟩] wr fun e w' => e = .returned (.pointer (some ⟨bb, 0, none⟩)) ∧ Below wr.heap.size wr w') := hA
          have HX := Lib.hid hx
          obtain ⟨q, hq⟩ : ∃ q, canonN rootN p = q := ⟨_, rfl⟩
          rw [hq] at hCA
          have HQ := Lib.hid hq
          have HCA := Lib.hid hCA
          clear hA hCA hown hB hall hc0 hc1 htk hx hlt hk hkl hq
          have tok : True := trivial
          go_wp2_with (first | (go_at_call 56; have _t := tok; refine HA.out.mono ?_; rintro e w2 ⟨rfl, hB2⟩; have HB2 : Hid (w2.ownsRow w.heap.size 9 1 (.slice oo k oc) k ((L.take k).map fun p => sv (canonN rootN p)) ∧ Below w.heap.size w w2) := ⟨ownsRow_kp HO.out (kp_of_below hB2) (by simp), HB.out.trans (hB2.mono HB.out.size)⟩; clear hB2 tok _t) | (go_at_call 58; refine (HCA.out _).mono ?_; rintro e w3 ⟨rfl, hB3⟩; have HB3 : Hid (w3.ownsRow w.heap.size 9 1 (.slice oo k oc) k ((L.take k).map fun p => sv (canonN rootN p)) ∧ Below w.heap.size w w3) := ⟨ownsRow_kp HB2.out.1 (kp_of_below hB3) (by simp), HB2.out.2.trans (hB3.mono HB2.out.2.size)⟩; clear hB3) | (at_builtin; go_loud (refine wpList_push rfl (.tmp 26) (.tmp 29) 27 rfl w.heap.size 9 (.string ⟨#[]⟩) 16 Tryz.underlying27 infoStr rfl (.slice oo k oc) k _ rfl HB3.out.1 (.string ⟨q.toArray⟩) _ rfl rfl (by unfold maxLen; omega) (by omega) HB3.out.2.size ?_); intro g1 c1 w4 hg1 hown4 hb4 _; have H4 := Lib.hid (And.intro hown4 (HB3.out.2.trans hb4)); clear hg1 hown4 hb4))
          exact ⟨⟨k + 1, by have := HK.out; omega, by go_num, by rw [HTK.out.1, HQ.out]; exact H4.out.1, H4.out.2, by rw [HTK.out.2.1, HALL.out]; have h2 := HSO.out; rw [HX.out] at h2; rw [← h2]; rfl⟩, by have := HK.out; simp [intOf]; omega⟩
      · have hkn : k = n := by omega
        subst hkn
        have t0 : decide ((k : Int) < (k : Int)) = false := by rw [decide_eq_false_iff_not]; omega
        have hkl := HN.out.1
        obtain ⟨oo, oc, rfl⟩ := owns_slice hown
        rw [List.take_of_length_le (by omega)] at hown
        have hall2 : allIn S L = true := by
          have := HALL.out
          rw [List.take_of_length_le (by omega)] at this; exact this
        have hrow : wr.ownsRow w.heap.size 9 1 (.slice oo k oc) ((L.map (canonN rootN)).length) ((L.map (canonN rootN)).map sv) := by
          rw [List.length_map, List.map_map, hkl]; exact hown
        obtain ⟨hT, hSt⟩ := H.out.search HN.out.2.1 HN.out.2.2 hB hrow
        obtain ⟨_, vs, ve, hcn, _⟩ := (H.out.low hB).node key b nn HN.out.2.1 HN.out.2.2
        obtain ⟨_, c0, _, _, hf⟩ := vcells4 hcn
        have hf0 := hf 1
        have HT := Lib.hid (And.intro hT (And.intro hSt hall2))
        clear hT hSt hall2 hall hrow hcn hf hown hkl hB hk hlt
        go_wp2_with fail
        go_ret
        rw [HRES.out, if_pos HT.out.2.2]
        exact ⟨rfl, _, _, _, HT.out.1, HT.out.2.1⟩
end Go.Proofs.YtjgdfgpnmmkjfaaGreatDoor

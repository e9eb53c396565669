/- The closures of 'steps' and of 'Glob'. -/
import Derived.Test.YtjgdfgpnmmkjfaaGreatDoorSteps
import Derived.Deep.RegionHeld3
import Derived.Deep.QuietTactic
import Derived.BigQuiet
namespace Go.Proofs.YtjgdfgpnmmkjfaaGreatDoor
set_option linter.unusedVariables false
set_option linter.unusedSimpArgs false
open Go.RowKit

set_option maxHeartbeats 400000 in
theorem steps1_any (x : Int) (w : World) : Calls Tryz.prog 119 #[.int .u8 x] w fun e w' => e = .returned (.bool true) ∧ w = w' := by
  go_enter Tryz.func119, Tryz.ntmps119
  go_wp2
  go_ret
  exact ⟨rfl, rfl⟩

theorem cell_of_blk {w : World} {b : Nat} {v : Value} {t : TypeId} (h : w.heap[b]? = some (.cells #[v] t (0, 0))) : w.cell? ⟨b, 0, none⟩ = some v := by
  simp only [World.cell?, h]; rfl

set_option maxHeartbeats 400000 in
theorem steps2_any (x : UInt8) (set : Bs) (fold : Bool) (bs bf : Nat) (hs : set.length ≤ 1000000) (w : World) (h1 : w.heap[bs]? = some (.cells #[.string ⟨set.toArray⟩] 9 (0, 0))) (h2 : w.heap[bf]? = some (.cells #[.bool fold] 4 (0, 0))) :
    Calls Tryz.prog 121 #[.int .u8 x.toNat, .pointer (some ⟨bs, 0, none⟩), .pointer (some ⟨bf, 0, none⟩)] w fun e w' => e = .returned (.bool (inC set x fold)) ∧ Below w.heap.size w w' := by
  have c1 := cell_of_blk h1
  have c2 := cell_of_blk h2
  go_enter Tryz.func121, Tryz.ntmps121
  go_wp2_with (go_at_call 122; refine (in_any set x fold hs _).mono ?_; rintro e w' ⟨rfl, hb⟩)
  go_ret
  exact ⟨rfl, hb⟩

set_option maxHeartbeats 400000 in
theorem steps3_any (x c : UInt8) (fold : Bool) (bc bf : Nat) (w : World) (h1 : w.heap[bc]? = some (.cells #[.int .u8 c.toNat] 5 (0, 0))) (h2 : w.heap[bf]? = some (.cells #[.bool fold] 4 (0, 0))) :
    Calls Tryz.prog 123 #[.int .u8 x.toNat, .pointer (some ⟨bc, 0, none⟩), .pointer (some ⟨bf, 0, none⟩)] w fun e w' => e = .returned (.bool (lit fold c x)) ∧ Below w.heap.size w w' := by
  have c1 := cell_of_blk h1
  have c2 := cell_of_blk h2
  have hx := byte_lt x
  have hc := byte_lt c
  by_cases hxc : x = c
  · have hl : lit fold c x = true := by simp [lit, hxc]
    rw [hl]
    have t1 : ((x.toNat : Int) == c.toNat) = true := by rw [hxc]; exact beq_self_eq_true _
    clear hl hxc
    go_enter Tryz.func123, Tryz.ntmps123
    go_wp2_with fail
    go_quiet (fail)
    go_wp2_with fail
    go_ret
    exact ⟨rfl, below_drewN (Below.refl _ _) _⟩
  · have t1 : ((x.toNat : Int) == c.toNat) = false := by rw [beq_eq_false_iff_ne]; intro h; exact hxc (byte_inj (by omega))
    cases fold with
    | false =>
      have hl : lit false c x = false := by simp [lit, hxc]
      rw [hl]
      clear hl hxc
      go_enter Tryz.func123, Tryz.ntmps123
      go_wp2_with fail
      go_quiet (fail)
      go_wp2_with fail
      go_ret
      exact ⟨rfl, below_drewN (Below.refl _ _) _⟩
    | true =>
      have hl : lit true c x = (lowI x.toNat == lowI c.toNat) := by
        simp only [lit, show (x == c) = false by simpa using hxc, Bool.false_or, Bool.true_and]
        rw [Bool.eq_iff_iff, beq_iff_eq, beq_iff_eq, ← lowB_toNat, ← lowB_toNat]
        exact ⟨fun h => by rw [h], fun h => byte_inj (by omega)⟩
      rw [hl]
      clear hl hxc
      go_enter Tryz.func123, Tryz.ntmps123
      go_wp2_with fail
      go_quiet ((go_at_call 124; exact Calls.quiet_of_same ((lower_any _ (by omega) (by omega) _).mono fun e w' h => ⟨h.1, h.2.symm⟩)))
      go_wp2_with fail
      go_ret
      exact ⟨rfl, below_drewN (Below.refl _ _) _⟩

/-- What the closure of 'Glob' finds in memory: the parts, the text, itself. -/
structure MatchAt (w : World) (bl bs bm B : Nat) (v : Value) (cs : List Value) (l : List Part) (s : Bs) : Prop where
  hl : w.heap[bl]? = some (.cells #[v] 115 (0, 0))
  hs : w.heap[bs]? = some (.cells #[.string ⟨s.toArray⟩] 9 (0, 0))
  hm : w.heap[bm]? = some (.cells #[.func (.func 100) #[] #[.pointer (some ⟨bl, 0, none⟩), .pointer (some ⟨bs, 0, none⟩), .pointer (some ⟨bm, 0, none⟩)]] 118 (0, 0))
  own : w.ownsRow B 121 2 v l.length cs
  parts : PartsAt w cs l

theorem grown_below_none {w w' : World} (h : Below w.heap.size w w') : w.grownBy w' none := ⟨h.os, h.tape, h.output, h.size, fun k hk _ => h.block k hk⟩
theorem blk_below {w w' : World} (h : Below w.heap.size w w') {b : Nat} {o : Obj} (hb : w.heap[b]? = some o) : w'.heap[b]? = some o :=
  (h.block b (Array.getElem?_eq_some_iff.1 hb).1).trans hb

theorem MatchAt.below {w w' : World} {bl bs bm B : Nat} {v : Value} {cs : List Value} {l : List Part} {s : Bs} (h : MatchAt w bl bs bm B v cs l s) (hb : Below w.heap.size w w') : MatchAt w' bl bs bm B v cs l s :=
  ⟨blk_below hb h.hl, blk_below hb h.hs, blk_below hb h.hm, h.own.kept (grown_below_none hb) (by cases v.ownBlock <;> simp), h.parts.kept (fun _ _ hk _ _ => blk_below hb hk)⟩

theorem MatchAt.shape {w : World} {bl bs bm B : Nat} {v : Value} {cs : List Value} {l : List Part} {s : Bs} (h : MatchAt w bl bs bm B v cs l s) : ∃ ao cap, v = .slice ao l.length cap := by
  rcases h.own.2 with ⟨h1, h2⟩ | ⟨g, cap, cur, h1, _⟩
  · exact ⟨none, 0, by rw [h1, h2]⟩
  · exact ⟨_, cap, h1⟩
theorem MatchAt.cells {w : World} {bl bs bm B : Nat} {ao : Option Addr} {cap : Nat} {cs : List Value} {l : List Part} {s : Bs} (h : MatchAt w bl bs bm B (.slice ao l.length cap) cs l s) {i : Nat} (hi : i < l.length) :
    ∃ g a b, ao = some ⟨g, 0, none⟩ ∧ w.cell? ⟨g, i * 2, none⟩ = some a ∧ w.cell? ⟨g, i * 2 + 1, none⟩ = some b ∧ PartAt w a b l[i] := by
  obtain ⟨a, b, h1, h2, h3⟩ := h.parts.get i hi
  rw [Nat.mul_comm] at h1 h2
  rcases h.own.2 with ⟨_, h0⟩ | ⟨g, cap', cur, hv, _⟩
  · omega
  · cases hv
    exact ⟨g, a, b, rfl, (h.own.cellAt (i * 2) (by omega)).trans h1, (h.own.cellAt (i * 2 + 1) (by omega)).trans h2, h3⟩

/-- What is left to try from place k on. -/
def gs (f : Bs → Bool × Bool) (s : Bs) (k : Nat) : Bool × Bool := if k ≤ s.length then gstar f (s.drop k) else (false, true)
theorem gs_step {f : Bs → Bool × Bool} {s : Bs} {k : Nat} (h : k ≤ s.length) : gs f s k = if ((f (s.drop k)).1 || (f (s.drop k)).2) = true then f (s.drop k) else gs f s (k + 1) := by
  unfold gs
  rw [if_pos h]
  by_cases hk : k < s.length
  · rw [List.drop_eq_getElem_cons hk, gstar, if_pos (show k + 1 ≤ s.length from hk)]
  · rw [List.drop_eq_nil_of_le (show s.length ≤ k by omega), gstar, if_neg (show ¬ k + 1 ≤ s.length by omega)]

set_option maxRecDepth 100000 in
set_option maxHeartbeats 1600000 in
theorem match_any (bl bs bm B : Nat) (v : Value) (cs : List Value) (l : List Part) (s : Bs) (hls : l.length ≤ 1000000) (hss : s.length ≤ 1000000) (n : Nat) : ∀ (i0 k0 : Nat), l.length - i0 < n → i0 ≤ l.length → k0 ≤ s.length → ∀ w, MatchAt w bl bs bm B v cs l s →
    Calls Tryz.prog 100 #[.int .i64 i0, .int .i64 k0, .pointer (some ⟨bl, 0, none⟩), .pointer (some ⟨bs, 0, none⟩), .pointer (some ⟨bm, 0, none⟩)] w fun e w' =>
      e = .returned (.tuple #[.bool (gm (l.drop i0) (s.drop k0)).1, .bool (gm (l.drop i0) (s.drop k0)).2]) ∧ Below w.heap.size w w' := by
  induction n with
  | zero => intro i0 k0 hn; omega
  | succ n ih =>
    intro i0 k0 hn hi0 hk0 w hM
    obtain ⟨ao, cap, rfl⟩ := hM.shape
    have IH := Lib.hid ih
    clear ih
    go_enter Tryz.func100, Tryz.ntmps100
    go_wp2_with fail
    go_loopw [0, 1] (fun v0 v1 wr => ∃ i k : Nat, i0 ≤ i ∧ i ≤ l.length ∧ k ≤ s.length ∧ v0 = .int .i64 i ∧ v1 = .int .i64 k ∧ Hid (gm (l.drop i0) (s.drop k0) = gm (l.drop i) (s.drop k)) ∧ Below w.heap.size w wr)
      (fun v0 _ _ => l.length - (intOf v0).toNat)
    case atStart => exact ⟨i0, k0, Nat.le_refl _, hi0, hk0, rfl, rfl, rfl, Below.refl _ _⟩
    case round =>
      obtain ⟨i, k, hii, hi, hk, rfl, rfl, HG, hb⟩ := hrel
      have hMr := hM.below hb
      have cl := cell_of_blk hMr.hl
      have cS := cell_of_blk hMr.hs
      have cm := cell_of_blk hMr.hm
      by_cases hlt : i < l.length
      · obtain ⟨g, a, b, rfl, hca, hcb, hpa⟩ := hMr.cells hlt
        have hdrop := List.drop_eq_getElem_cons hlt
        cases hpi : l[i] with
        | none =>
          rw [hpi] at hpa hdrop
          obtain ⟨rfl, rfl⟩ := hpa
          have HG2 : Hid (gm (l.drop i0) (s.drop k0) = gs (gm (l.drop (i + 1))) s k) := by
            show _ = _
            rw [HG.out, hdrop, gs, if_pos hk]; rfl
          clear hdrop hpi HG
          go_wp2_with fail
          obtain ⟨wo, rfl⟩ : ∃ wo : World, wo = wr := ⟨_, rfl⟩
          clear cl cS cm hca hcb
          go_loopw [9] (fun v9 wy => ∃ q : Nat, q ≤ s.length + 1 ∧ v9 = .int .i64 q ∧ Hid (gm (l.drop i0) (s.drop k0) = gs (gm (l.drop (i + 1))) s q) ∧ Below w.heap.size w wy)
            (fun v9 _ => s.length + 1 - (intOf v9).toNat)
          case atStart => exact ⟨k, by omega, rfl, HG2, hb⟩
          case round =>
            obtain ⟨q, hq, rfl, HQ, hb2⟩ := hrel
            have hMq := hM.below hb2
            have cl := cell_of_blk hMq.hl
            have cS := cell_of_blk hMq.hs
            have cm := cell_of_blk hMq.hm
            by_cases hqs : q ≤ s.length
            · have hst := gs_step (f := gm (l.drop (i + 1))) hqs
              obtain ⟨r, hr⟩ : ∃ r, r = gm (l.drop (i + 1)) (s.drop q) := ⟨_, rfl⟩
              have hih := IH.out (i + 1) q (by omega) (by omega) hqs wr hMq
              rw [← hr] at hih hst
              obtain ⟨r1, r2⟩ := r
              simp only at hih hst
              have HI := Lib.hid hih
              clear hih hr
              by_cases h1 : r1 = true
              · have HF : Hid (gm (l.drop i0) (s.drop k0) = (r1, r2)) := by show _ = _; rw [HQ.out, hst, if_pos (by rw [h1]; rfl)]
                clear hst
                subst h1
                go_wp2_with (go_at_call 100; refine HI.out.mono ?_; rintro e w2 ⟨rfl, hb3⟩)
                go_ret2
                exact ⟨by rw [HF.out]; rfl, hb2.trans (hb3.mono hb2.size)⟩
              · obtain rfl : r1 = false := by simpa using h1
                by_cases h2 : r2 = true
                · have HF : Hid (gm (l.drop i0) (s.drop k0) = (false, r2)) := by show _ = _; rw [HQ.out, hst, if_pos (by rw [h2]; rfl)]
                  clear hst
                  subst h2
                  go_wp2_with (go_at_call 100; refine HI.out.mono ?_; rintro e w2 ⟨rfl, hb3⟩)
                  go_ret2
                  exact ⟨by rw [HF.out]; rfl, hb2.trans (hb3.mono hb2.size)⟩
                · obtain rfl : r2 = false := by simpa using h2
                  have HF : Hid (gm (l.drop i0) (s.drop k0) = gs (gm (l.drop (i + 1))) s (q + 1)) := by show _ = _; rw [HQ.out, hst, if_neg (by simp)]
                  clear hst h1 h2
                  go_wp2_with (go_at_call 100; refine HI.out.mono ?_; rintro e w2 ⟨rfl, hb3⟩)
                  go_roundw
                  case rel => exact ⟨q + 1, by omega, by go_num, HF, hb2.trans (hb3.mono hb2.size)⟩
                  case measure => simp [intOf]; omega
            · have HF : Hid (gm (l.drop i0) (s.drop k0) = (false, true)) := by show _ = _; rw [HQ.out, gs, if_neg hqs]
              go_wp2_with fail
              go_ret2
              exact ⟨by rw [HF.out]; rfl, hb2⟩
        | some p =>
          rw [hpi] at hpa hdrop
          obtain ⟨rfl, hpb⟩ := hpa
          rw [hdrop] at HG
          clear hdrop hpi
          by_cases hks : k < s.length
          · have hds := List.drop_eq_getElem_cons hks
            have lb1 : bl < wr.heap.size := (Array.getElem?_eq_some_iff.1 hMr.hl).1
            have lb2 : bs < wr.heap.size := (Array.getElem?_eq_some_iff.1 hMr.hs).1
            have lb3 : g < wr.heap.size := World.block_lt_of_cell? wr _ hcb
            have e1 : (k : Int) < (s.length : Int) := by omega
            have e2 : (i : Int) < (l.length : Int) := by omega
            have t47 : ((k : Int) == (s.length : Int)) = false := by rw [beq_eq_false_iff_ne]; omega
            have h255 := byte_lt s[k]
            by_cases hp : p s[k] = true
            · have HF : Hid (gm (l.drop i0) (s.drop k0) = gm (l.drop (i + 1)) (s.drop (k + 1))) := by show _ = _; rw [HG.out, hds, gm, if_pos hp]
              clear HG hds
              rcases hpb with ⟨rfl, rfl⟩ | ⟨bs', bf, set, fold, rfl, q1, q2, q3, rfl⟩ | ⟨bc, bf, fold, c, rfl, q1, q2, rfl⟩
              · have HC := Lib.hid (fun (W : World) (_ : True) => (steps1_any s[k].toNat W).mono (R' := fun e w' => e = .returned (.bool true) ∧ Below W.heap.size W w') fun e w' h => ⟨h.1, h.2 ▸ Below.refl _ _⟩)
                go_wp2_with fail
                go_region_held3 (fun w' => w'.cell? ⟨bl, 0, none⟩ = some (.slice (some ⟨g, 0, none⟩) l.length cap) ∧ w'.cell? ⟨bs, 0, none⟩ = some (.string ⟨s.toArray⟩) ∧ w'.cell? ⟨g, i * 2 + 1, none⟩ = some (.func (.func 119) #[] #[])) (first | go_keep | (go_split_ands; exact ⟨(hbx.cell lb1).trans cl, (hbx.cell lb2).trans cS, (hbx.cell lb3).trans hcb⟩)) ((go_at_call 119; refine (HC.out _ trivial).mono ?_; rintro e w2 ⟨rfl, hbx⟩))
                have hbx' : Below wr.heap.size wr w2 := (Below.refl wr.heap.size wr).drew.trans hbx
                clear hbx cl cS cm hca hcb
                go_wp2_with fail
                go_roundw
                case rel => exact ⟨i + 1, k + 1, by omega, by omega, by omega, by go_num, by go_num, HF, hb.trans (hbx'.mono hb.size)⟩
                case measure => simp [intOf]; omega
              · have HC := Lib.hid (fun (W : World) (h : W.heap[bs']? = some (.cells #[.string ⟨set.toArray⟩] 9 (0, 0)) ∧ W.heap[bf]? = some (.cells #[.bool fold] 4 (0, 0))) => steps2_any s[k] set fold bs' bf q3 W h.1 h.2)
                have HQ := Lib.hid (And.intro q1 q2)
                obtain ⟨y, hy⟩ : ∃ y, y = inC set s[k] fold := ⟨_, rfl⟩
                try simp only at hp
                rw [← hy] at HC hp
                clear q1 q2 hy
                subst hp
                go_wp2_with fail
                go_region_held3 (fun w' => w'.cell? ⟨bl, 0, none⟩ = some (.slice (some ⟨g, 0, none⟩) l.length cap) ∧ w'.cell? ⟨bs, 0, none⟩ = some (.string ⟨s.toArray⟩) ∧ w'.cell? ⟨g, i * 2 + 1, none⟩ = some (.func (.func 121) #[] #[.pointer (some ⟨bs', 0, none⟩), .pointer (some ⟨bf, 0, none⟩)])) (first | go_keep | (go_split_ands; exact ⟨(hbx.cell lb1).trans cl, (hbx.cell lb2).trans cS, (hbx.cell lb3).trans hcb⟩)) ((go_at_call 121; refine (HC.out _ (by exact HQ.out)).mono ?_; rintro e w2 ⟨rfl, hbx⟩))
                have hbx' : Below wr.heap.size wr w2 := (Below.refl wr.heap.size wr).drew.trans hbx
                clear hbx cl cS cm hca hcb
                go_wp2_with fail
                go_roundw
                case rel => exact ⟨i + 1, k + 1, by omega, by omega, by omega, by go_num, by go_num, HF, hb.trans (hbx'.mono hb.size)⟩
                case measure => simp [intOf]; omega
              · have HC := Lib.hid (fun (W : World) (h : W.heap[bc]? = some (.cells #[.int .u8 c.toNat] 5 (0, 0)) ∧ W.heap[bf]? = some (.cells #[.bool fold] 4 (0, 0))) => steps3_any s[k] c fold bc bf W h.1 h.2)
                have HQ := Lib.hid (And.intro q1 q2)
                obtain ⟨y, hy⟩ : ∃ y, y = lit fold c s[k] := ⟨_, rfl⟩
                try simp only at hp
                rw [← hy] at HC hp
                clear q1 q2 hy
                subst hp
                go_wp2_with fail
                go_region_held3 (fun w' => w'.cell? ⟨bl, 0, none⟩ = some (.slice (some ⟨g, 0, none⟩) l.length cap) ∧ w'.cell? ⟨bs, 0, none⟩ = some (.string ⟨s.toArray⟩) ∧ w'.cell? ⟨g, i * 2 + 1, none⟩ = some (.func (.func 123) #[] #[.pointer (some ⟨bc, 0, none⟩), .pointer (some ⟨bf, 0, none⟩)])) (first | go_keep | (go_split_ands; exact ⟨(hbx.cell lb1).trans cl, (hbx.cell lb2).trans cS, (hbx.cell lb3).trans hcb⟩)) ((go_at_call 123; refine (HC.out _ (by exact HQ.out)).mono ?_; rintro e w2 ⟨rfl, hbx⟩))
                have hbx' : Below wr.heap.size wr w2 := (Below.refl wr.heap.size wr).drew.trans hbx
                clear hbx cl cS cm hca hcb
                go_wp2_with fail
                go_roundw
                case rel => exact ⟨i + 1, k + 1, by omega, by omega, by omega, by go_num, by go_num, HF, hb.trans (hbx'.mono hb.size)⟩
                case measure => simp [intOf]; omega
            · have HF : Hid (gm (l.drop i0) (s.drop k0) = (false, false)) := by show _ = _; rw [HG.out, hds, gm, if_neg hp]
              clear HG hds
              have hp : p s[k] = false := by simpa using hp
              rcases hpb with ⟨rfl, rfl⟩ | ⟨bs', bf, set, fold, rfl, q1, q2, q3, rfl⟩ | ⟨bc, bf, fold, c, rfl, q1, q2, rfl⟩
              · cases hp
              · have HC := Lib.hid (fun (W : World) (h : W.heap[bs']? = some (.cells #[.string ⟨set.toArray⟩] 9 (0, 0)) ∧ W.heap[bf]? = some (.cells #[.bool fold] 4 (0, 0))) => steps2_any s[k] set fold bs' bf q3 W h.1 h.2)
                have HQ := Lib.hid (And.intro q1 q2)
                obtain ⟨y, hy⟩ : ∃ y, y = inC set s[k] fold := ⟨_, rfl⟩
                try simp only at hp
                rw [← hy] at HC hp
                clear q1 q2 hy
                subst hp
                go_wp2_with fail
                go_region_held3 (fun w' => w'.cell? ⟨bl, 0, none⟩ = some (.slice (some ⟨g, 0, none⟩) l.length cap) ∧ w'.cell? ⟨bs, 0, none⟩ = some (.string ⟨s.toArray⟩) ∧ w'.cell? ⟨g, i * 2 + 1, none⟩ = some (.func (.func 121) #[] #[.pointer (some ⟨bs', 0, none⟩), .pointer (some ⟨bf, 0, none⟩)])) (first | go_keep | (go_split_ands; exact ⟨(hbx.cell lb1).trans cl, (hbx.cell lb2).trans cS, (hbx.cell lb3).trans hcb⟩)) ((go_at_call 121; refine (HC.out _ (by exact HQ.out)).mono ?_; rintro e w2 ⟨rfl, hbx⟩))
                have hbx' : Below wr.heap.size wr w2 := (Below.refl wr.heap.size wr).drew.trans hbx
                clear hbx cl cS cm hca hcb
                go_wp2_with fail
                go_ret2
                exact ⟨by rw [HF.out]; rfl, hb.trans (hbx'.mono hb.size)⟩
              · have HC := Lib.hid (fun (W : World) (h : W.heap[bc]? = some (.cells #[.int .u8 c.toNat] 5 (0, 0)) ∧ W.heap[bf]? = some (.cells #[.bool fold] 4 (0, 0))) => steps3_any s[k] c fold bc bf W h.1 h.2)
                have HQ := Lib.hid (And.intro q1 q2)
                obtain ⟨y, hy⟩ : ∃ y, y = lit fold c s[k] := ⟨_, rfl⟩
                try simp only at hp
                rw [← hy] at HC hp
                clear q1 q2 hy
                subst hp
                go_wp2_with fail
                go_region_held3 (fun w' => w'.cell? ⟨bl, 0, none⟩ = some (.slice (some ⟨g, 0, none⟩) l.length cap) ∧ w'.cell? ⟨bs, 0, none⟩ = some (.string ⟨s.toArray⟩) ∧ w'.cell? ⟨g, i * 2 + 1, none⟩ = some (.func (.func 123) #[] #[.pointer (some ⟨bc, 0, none⟩), .pointer (some ⟨bf, 0, none⟩)])) (first | go_keep | (go_split_ands; exact ⟨(hbx.cell lb1).trans cl, (hbx.cell lb2).trans cS, (hbx.cell lb3).trans hcb⟩)) ((go_at_call 123; refine (HC.out _ (by exact HQ.out)).mono ?_; rintro e w2 ⟨rfl, hbx⟩))
                have hbx' : Below wr.heap.size wr w2 := (Below.refl wr.heap.size wr).drew.trans hbx
                clear hbx cl cS cm hca hcb
                go_wp2_with fail
                go_ret2
                exact ⟨by rw [HF.out]; rfl, hb.trans (hbx'.mono hb.size)⟩
          · have hend : gm (l.drop i0) (s.drop k0) = (false, true) := by
              rw [HG.out, List.drop_eq_nil_of_le (show s.length ≤ k by omega)]; rfl
            have HE := Lib.hid hend
            clear hend HG
            obtain rfl : k = s.length := by omega
            go_wp2_with fail
            go_ret2
            exact ⟨by rw [HE.out]; rfl, hb⟩
      · obtain rfl : i = l.length := by omega
        by_cases hks : k < s.length
        · have HE : Hid (gm (l.drop i0) (s.drop k0) = (false, false)) := by
            show _ = _
            rw [HG.out, List.drop_length, List.drop_eq_getElem_cons hks]; rfl
          have t1 : ((k : Int) == (s.length : Int)) = false := by rw [beq_eq_false_iff_ne]; omega
          clear HG
          go_wp2_with fail
          go_ret2
          exact ⟨by rw [HE.out]; rfl, hb⟩
        · have HE : Hid (gm (l.drop i0) (s.drop k0) = (true, false)) := by
            show _ = _
            rw [HG.out, List.drop_length, List.drop_eq_nil_of_le (show s.length ≤ k by omega)]; rfl
          obtain rfl : k = s.length := by omega
          clear HG
          go_wp2_with fail
          go_ret2
          exact ⟨by rw [HE.out]; rfl, hb⟩
end Go.Proofs.YtjgdfgpnmmkjfaaGreatDoor

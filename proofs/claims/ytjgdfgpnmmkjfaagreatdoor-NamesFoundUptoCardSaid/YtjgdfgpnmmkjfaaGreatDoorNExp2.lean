/- 'Export' of a tree of namespaces. -/
import Derived.Test.YtjgdfgpnmmkjfaaGreatDoorNExp
namespace Go.Proofs.YtjgdfgpnmmkjfaaGreatDoor
set_option linter.unusedVariables false
set_option linter.unusedSimpArgs false
open Go.RowKit Go.MapKept

def expStep (o : List Bs) (p : Bs) : List Bs := if hasB o p then o else o ++ [p]
def expL (o : List Bs) (L : List Bs) : List Bs := L.foldl expStep o
theorem expL_snoc (o : List Bs) (L : List Bs) (k : Nat) (hk : k < L.length) : expL o (L.take (k + 1)) = expStep (expL o (L.take k)) L[k] := by
  unfold expL
  rw [List.take_succ_eq_append_getElem hk, List.foldl_append]; rfl
theorem exp_len : ∀ (L o : List Bs), (expL o L).length ≤ o.length + L.length
  | [], o => by simp [expL]
  | p :: r, o => by
    have h := exp_len r (expStep o p)
    have h2 : (expStep o p).length ≤ o.length + 1 := by unfold expStep; split <;> simp
    show (expL (expStep o p) r).length ≤ _
    rw [List.length_cons]; omega
def ex0 (n : ND) (clear : Bool) : List Bs := if clear = true then [] else n.exports
def expS (S : Bs → Option ND) (path : Bs) (L : List Bs) (clear : Bool) : Int × (Bs → Option ND) :=
  match S (canonN rootN path) with
  | none => (8, S)
  | some n => (0, setS S (canonN rootN path) { n with exports := expL (ex0 n clear) L })
theorem setS_setS (S : Bs → Option ND) (k : Bs) (a b : ND) : setS (setS S k a) k b = setS S k b := by
  funext q; unfold setS; by_cases h : q = k
  · rw [if_pos h, if_pos h]
  · rw [if_neg h, if_neg h, if_neg h]
theorem setS_self {S : Bs → Option ND} {k : Bs} {n : ND} (h : S k = some n) : setS S k n = S := by
  funext q; unfold setS; by_cases e : q = k
  · rw [if_pos e, e, h]
  · rw [if_neg e]
theorem setS_at (S : Bs → Option ND) (k : Bs) (n : ND) : setS S k n k = some n := if_pos rfl
set_option maxRecDepth 100000 in
set_option maxHeartbeats 1600000 in
theorem Export_any {w : World} {B tb m : Nat} {who : Own} {nd : Bs → Option Nat} {S : Bs → Option ND} (h : Tr w B tb m who nd S) (path : Bs) (hp : path.length ≤ 100000) (L : List Bs) (clear : Bool) (hn : L.length ≤ 100000) (hE : ∀ n, S (canonN rootN path) = some n → n.exports.length ≤ 100000) {v : Value} (hv : TxtRow w v L) (hvn : ∀ o n c, v = .slice (some o) n c → 0 < n → who o.block = none) :
    Calls Tryz.prog 27 #[.pointer (some ⟨tb, 0, none⟩), .string ⟨path.toArray⟩, v, .bool clear] w fun e w' => e = .returned (.int .i64 (expS S path L clear).1) ∧ ∃ who' nd', Tr w' B tb m who' nd' (expS S path L clear).2 ∧ Stp who who' w w' := by
  obtain ⟨ao, ac, rfl⟩ := hv.len
  have A0 := at_any h.tree path hp
  unfold expS
  cases hnd : nd (canonN rootN path) with
  | none =>
    rw [h.none_of hnd]
    rw [hnd] at A0
    have A1 : Hid (Calls Tryz.prog 32 #[.pointer (some ⟨tb, 0, none⟩), .string ⟨path.toArray⟩] w fun e w' => e = .returned (.pointer none) ∧ Below w.heap.size w w') := A0
    have H := Lib.hid h
    clear h A0 hnd hp hv hE hvn
    go_enter Tryz.func27, Tryz.ntmps27
    go_wp2_with (go_at_call 32; refine A1.out.mono ?_; rintro e w2 ⟨rfl, hB⟩; have HB := Lib.hid hB; clear hB)
    go_ret
    exact ⟨rfl, who, nd, H.out.low HB.out, Stp.of_below HB.out⟩
  | some b =>
    obtain ⟨nn, hS, _⟩ := h.has hnd
    have hE2 := hE nn hS
    rw [hS]
    rw [hnd] at A0
    have A1 : Hid (Calls Tryz.prog 32 #[.pointer (some ⟨tb, 0, none⟩), .string ⟨path.toArray⟩] w fun e w' => e = .returned (.pointer (some ⟨b, 0, none⟩)) ∧ Below w.heap.size w w') := A0
    obtain ⟨key, hkey⟩ : ∃ key, canonN rootN path = key := ⟨_, rfl⟩
    rw [hkey] at hnd hS ⊢
    show Calls _ _ _ _ fun e w' => e = .returned (.int .i64 0) ∧ ∃ who' nd', Tr w' B tb m who' nd' (setS S key { nn with exports := expL (ex0 nn clear) L }) ∧ Stp who who' w w'
    obtain ⟨_, hlc, hcm, hcell⟩ := hv.at_
    unfold maxLen at hcm
    have hx0 : (ex0 nn clear).length ≤ 100000 := by unfold ex0; split; simp; exact hE2
    obtain ⟨n, hnl⟩ : ∃ n, L.length = n := ⟨_, rfl⟩
    rw [hnl] at hlc hn hvn ⊢
    have HV := Lib.hid hv
    have HN := Lib.hid (And.intro hnl (And.intro hnd (And.intro hS hx0)))
    have HU : Hid (0 < n → ∀ a, ao = some a → who a.block = none) := fun hp a ha => hvn a n ac (by rw [ha]) hp
    have H := Lib.hid h
    -- the start of the loop
    have HST : Hid (∀ W, Below w.heap.size w W → clear = false → Tr W B tb m who nd (setS S key { nn with exports := expL (ex0 nn clear) [] }) ∧ Stp who who w W) := fun W hb hcl => by
      subst hcl
      rw [show ({ nn with exports := expL (ex0 nn false) [] } : ND) = nn from rfl, setS_self hS]
      exact ⟨h.low hb, Stp.of_below hb⟩
    have HSC : Hid (∀ W, Below w.heap.size w W → clear = true → Tr (W.setCell ⟨b, 1, none⟩ (.slice none 0 0)) B tb m who nd (setS S key { nn with exports := expL (ex0 nn clear) [] }) ∧ Stp who who w (W.setCell ⟨b, 1, none⟩ (.slice none 0 0))) := fun W hb hcl => by
      subst hcl
      have h2 := (h.low hb).cleared hnd hS
      exact ⟨h2.1, (Stp.of_below hb).trans h2.2⟩
    have HCE : Hid (∀ W, Below w.heap.size w W → ∃ ve, W.cell? ⟨b, 1, none⟩ = some ve ∧ ∀ i, W.frozen? ⟨b, i, none⟩ = false) := fun W hb => by
      obtain ⟨vs, ve, hcn, _⟩ := (h.low hb).node3 hnd hS
      obtain ⟨_, c1, _, hf⟩ := vcells3 hcn
      exact ⟨ve, c1, hf⟩
    clear h hv hcell hE hnl hnd hS A0 hp hkey hvn hx0 hE2
    go_enter Tryz.func27, Tryz.ntmps27
    cases hcl : clear
    all_goals
      go_wp2_with (go_at_call 32; refine A1.out.mono ?_; rintro e w1 ⟨rfl, hB⟩; obtain ⟨ve, c1, hf⟩ := HCE.out _ hB; have hf1 := hf 1; have HB1 := Lib.hid hB; clear hB hf)
      go_loopw [23] (fun q wr => ∃ k : Nat, k ≤ n ∧ q = .int .i64 (k : Int) ∧ ∃ who', Tr wr B tb m who' nd (setS S key { nn with exports := expL (ex0 nn clear) (L.take k) }) ∧ Stp who who' w wr) (fun q _ => n - (intOf q).toNat)
      case atStart => first | exact ⟨0, Nat.zero_le _, rfl, who, HST.out _ HB1.out hcl⟩ | exact ⟨0, Nat.zero_le _, rfl, who, HSC.out _ HB1.out hcl⟩
      case round =>
        obtain ⟨k, hk, rfl, who1, hT, hSt⟩ := hrel
        clear c1 hf1
        by_cases hlt : k < n
        · have hkl : k < L.length := by have := HN.out.1; omega
          have hrow := HV.out.fr (HU.out (by omega)) hSt.fr
          obtain ⟨hh, _, _, hcell⟩ := hrow.at_
          obtain ⟨gb, off, rfl, hgl, hc0⟩ := hcell k hkl
          have hstep := expL_snoc (ex0 nn clear) L k hkl
          have hlen := exp_len (L.take k) (ex0 nn clear)
          have hlb : (expL (ex0 nn clear) (L.take k)).length ≤ 300000 := by
            have : (L.take k).length ≤ k := by simp; omega
            have := HN.out.2.2.2
            omega
          obtain ⟨vs, v1, hcn, hwb, hbl, r1, r2, r3, r4⟩ := hT.node3 HN.out.2.1 (setS_at _ _ _)
          obtain ⟨_, d1, _, hf⟩ := vcells3 hcn
          have hf1 := hf 1
          simp only at r3
          have HPU := Lib.hid (fun w' g c p => hT.pushed (w' := w') (g := g) (c := c) (p := p) HN.out.2.1 (setS_at _ _ _) hcn)
          have HCB := Lib.hid (fun (w' : World) (hk' : Kp v1.ownBlock.toList wr w') => by
            have hb' := (hk'.block b hbl (fun hm => by have := r4 b (by simpa using hm); rw [hwb] at this; cases this)).trans hcn
            obtain ⟨_, d1', _, hf'⟩ := vcells3 hb'
            exact And.intro d1' (hf' 1))
          obtain ⟨eo, ec, rfl⟩ := owns_slice r3
          have hco := fun x => contains_any (TxtRow.of_owns r3) x
          generalize L[k] = p at *
          have hcx : wr.cell? ⟨gb, off + k, none⟩ = some (.string ⟨p.toArray⟩) := hc0
          have t0 : decide ((k : Int) < (n : Int)) = true := by rw [decide_eq_true_eq]; omega
          have i1 : k < n := hlt
          have hw1 : IntKind.i64.wrap ((k : Int) + 1) = (k : Int) + 1 := IntWalk.i64_in _ (by omega)
          obtain ⟨ex, hex⟩ : ∃ ex, expL (ex0 nn clear) (L.take k) = ex := ⟨_, rfl⟩
          simp only [hex] at r3 hco hstep hlb HPU HCB d1 hT
          have HT := Lib.hid (And.intro hT hSt)
          obtain ⟨en, hen⟩ : ∃ en, ex.length = en := ⟨_, rfl⟩
          simp only [hen] at r3 hco hlb d1 HPU HCB
          have HR := Lib.hid r3
          have HK := Lib.hid (And.intro hlt (And.intro hen hex))
          have HSTEP := Lib.hid hstep
          have HCO := hco p
          have hbase := hT.base
          clear hT hSt hrow hcell hc0 hlen hcn hwb hbl r1 r2 r3 r4 hf hco hex hen hstep hlt hk hkl hh
          cases hhs : hasB ex p with
          | true =>
            rw [hhs] at HCO
            have HC := Lib.hid HCO
            have HEQ : Hid (expL (ex0 nn clear) (L.take (k + 1)) = ex) := by show _ = _; rw [HSTEP.out]; unfold expStep; rw [hhs]; rfl
            clear HCO hhs
            go_wp2_with (go_at_call 39; refine HC.out.mono ?_; rintro e w2 ⟨rfl, rfl⟩)
            exact ⟨⟨k + 1, by have := HK.out; omega, by go_num, who1, by rw [HEQ.out]; exact HT.out.1, HT.out.2⟩, by have := HK.out; simp [intOf]; omega⟩
          | false =>
            rw [hhs] at HCO
            have HC := Lib.hid HCO
            have HEQ : Hid (expL (ex0 nn clear) (L.take (k + 1)) = ex ++ [p]) := by show _ = _; rw [HSTEP.out]; unfold expStep; rw [hhs]; rfl
            clear HCO hhs
            go_wp2_with (first | (go_at_call 39; refine HC.out.mono ?_; rintro e w2 ⟨rfl, rfl⟩) | (at_builtin; go_loud (refine wpList_push1 rfl (.tmp 38) (.tmp 40) 27 rfl B 9 (.string ⟨#[]⟩) 16 Tryz.underlying27 infoStr rfl (.slice eo en ec) en _ rfl HR.out (.string ⟨p.toArray⟩) _ rfl rfl rfl (by unfold maxLen; omega) (by omega) hbase ?_); intro g1 c1 w3 hg1 hown3 hk3 hloc; have HPX := Lib.hid (HPU.out w3 g1 c1 p hk3 hown3 hloc); obtain ⟨x1, xf⟩ := HCB.out w3 hk3; clear hg1 hown3 hk3 hloc))
            obtain ⟨who2, hT2, hS2⟩ := HPX.out
            rw [setS_setS] at hT2
            exact ⟨⟨k + 1, by have := HK.out; omega, by go_num, who2, by rw [HEQ.out]; exact hT2, HT.out.2.trans hS2⟩, by have := HK.out; simp [intOf]; omega⟩
        · have hkn : k = n := by omega
          subst hkn
          have t0 : decide ((k : Int) < (k : Int)) = false := by rw [decide_eq_false_iff_not]; omega
          have hnn := HN.out.1
          rw [List.take_of_length_le (by omega)] at hT
          have HT := Lib.hid (And.intro hT hSt)
          clear hT hSt hk hlt hnn
          go_wp2_with fail
          go_ret
          exact ⟨rfl, who1, nd, by have := HT.out.1; rw [hcl] at this; exact this, HT.out.2⟩
end Go.Proofs.YtjgdfgpnmmkjfaaGreatDoor

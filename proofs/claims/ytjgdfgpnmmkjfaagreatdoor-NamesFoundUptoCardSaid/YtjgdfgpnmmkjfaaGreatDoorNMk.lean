/- 'Make' of a tree of namespaces. -/
import Derived.Test.YtjgdfgpnmmkjfaaGreatDoorNRep
namespace Go.Proofs.YtjgdfgpnmmkjfaaGreatDoor
set_option linter.unusedVariables false
set_option linter.unusedSimpArgs false
open Go.RowKit Go.MapKept

def put1 (S : Bs → Option ND) (k : Bs) : Bs → Option ND := if (S k).isNone then setS S k .new else S
/-- The paths that 'Make' makes: the heads of a path and itself. -/
def headsN (ps : List Bs) (j : Nat) : List Bs := (List.range j).map fun i => canN (ps.take i)
def mkS (S : Bs → Option ND) (ps : List Bs) (j : Nat) : Bs → Option ND := (headsN ps j).foldl put1 S
theorem mkS_zero (S : Bs → Option ND) (ps : List Bs) : mkS S ps 0 = S := rfl
theorem mkS_succ (S : Bs → Option ND) (ps : List Bs) (j : Nat) : mkS S ps (j + 1) = put1 (mkS S ps j) (canN (ps.take j)) := by
  unfold mkS headsN
  rw [List.range_succ, List.map_append, List.foldl_append]; rfl
def makeS (S : Bs → Option ND) (path : Bs) : Bs → Option ND := mkS S (partsN path) ((partsN path).length + 1)
theorem can_len (l : List Bs) : (canN l).length ≤ wN l + 2 := by
  have := join_w l
  unfold canN
  simp only [List.length_cons]
  omega
theorem wN_take_le (l : List Bs) (k : Nat) : wN (l.take k) ≤ wN l := wN_take l k
set_option maxHeartbeats 800000 in
theorem Make_any {w : World} {B tb m : Nat} {who : Own} {nd : Bs → Option Nat} {S : Bs → Option ND} (h : Tr w B tb m who nd S) (path : Bs) (hp : path.length ≤ 100000) :
    Calls Tryz.prog 14 #[.pointer (some ⟨tb, 0, none⟩), .string ⟨path.toArray⟩] w fun e w' => e = .returned (.int .i64 0) ∧ ∃ who' nd', Tr w' B tb m who' nd' (makeS S path) ∧ Stp who who' w w' := by
  have hw := parts_w path
  have hl := len_w (partsN path)
  have PA : Hid (Calls Tryz.prog 34 #[.string ⟨path.toArray⟩] w fun e w' => ∃ o c, e = .returned (.slice o (partsN path).length c) ∧ w'.ownsRow w.heap.size 9 1 (.slice o (partsN path).length c) (partsN path).length ((partsN path).map sv) ∧ Below w.heap.size w w') := (Parts_any path (by omega) w).mono fun e w' ⟨r, he, ho, hB⟩ => by
    obtain ⟨o, c, rfl⟩ := owns_slice ho
    exact ⟨o, c, he, ho, hB⟩
  have JO : Hid (∀ W v l, wN l ≤ 1000000000 → TxtRow W v l → Calls Tryz.prog 35 #[v] W fun e w' => e = .returned (.string ⟨(canN l).toArray⟩) ∧ Below W.heap.size W w') := fun W v l q ht => joined_any l v W ht q
  unfold makeS
  generalize partsN path = ps at *
  obtain ⟨n, hn⟩ : ∃ n, ps.length = n := ⟨_, rfl⟩
  have HN := Lib.hid (And.intro hn (And.intro (show wN ps ≤ 400000 by omega) hl))
  rw [hn] at hl PA ⊢
  have hnb : n ≤ 1000000 := by omega
  have H := Lib.hid h
  have hp1 : IntKind.i64.wrap ((n : Int) + 1) = (n : Int) + 1 := IntWalk.i64_in _ (by omega)
  clear h hw hl hn hp
  go_enter Tryz.func14, Tryz.ntmps14
  go_wp2_with (go_at_call 34; refine PA.out.mono ?_; rintro e w1 ⟨ao, ac, rfl, ho, hB⟩; have HP := Lib.hid (And.intro ho hB); clear ho hB)
  go_loopw [15] (fun q wr => ∃ k : Nat, k ≤ n + 1 ∧ q = .int .i64 (k : Int) ∧ ∃ who' nd', Tr wr B tb m who' nd' (mkS S ps k) ∧ Stp who who' w1 wr) (fun q _ => n + 1 - (intOf q).toNat)
  case atStart => exact ⟨0, Nat.zero_le _, rfl, who, nd, H.out.low HP.out.2, Stp.refl _ _⟩
  case round =>
    obtain ⟨k, hk, rfl, who1, nd1, hT, hS⟩ := hrel
    have HR := Lib.hid (And.intro hT hS)
    by_cases hlt : k < n + 1
    · have htx : TxtRow w1 (.slice ao n ac) ps := by
        have := HP.out.1
        have e := HN.out.1
        rw [← e] at this ⊢
        exact TxtRow.of_owns this
      have hun : ∀ a, ao = some a → who a.block = none := fun a ha => H.out.none_at (TxtRow.nilOr HP.out.1 a ha)
      have hrow : TxtRow wr (.slice ao k ac) (ps.take k) := (htx.fr hun hS.fr).take (by omega)
      have hcap : n ≤ ac := by obtain ⟨_, h2, _⟩ := htx.at_; rw [HN.out.1] at h2; exact h2
      have hcm : ac ≤ maxLen := by obtain ⟨_, _, h2, _⟩ := htx.at_; exact h2
      have hql : (canN (ps.take k)).length ≤ 1000000 := by
        have h1 := can_len (ps.take k)
        have h2 := wN_take_le ps k
        have h3 := HN.out.2.1
        omega
      have hJ := JO.out wr _ _ (by have h2 := wN_take_le ps k; have h3 := HN.out.2.1; omega) hrow
      have hs := mkS_succ S ps k
      obtain ⟨q, hq⟩ : ∃ q, canN (ps.take k) = q := ⟨_, rfl⟩
      rw [hq] at hJ hql hs
      have HJ := Lib.hid hJ
      have HS := Lib.hid hs
      have hst := fun W (hb : Below wr.heap.size wr W) => (hT.low hb).put q (by unfold maxLen; omega)
      have hlk := fun W (hb : Below wr.heap.size wr W) => (hT.low hb).tree.look (k := q) (by unfold maxLen; omega)
      have hce := fun W (hb : Below wr.heap.size wr W) => (vcells1 (hT.low hb).tree.cel).1
      have t0 : decide ((k : Int) < (n : Int) + 1) = true := by rw [decide_eq_true_eq]; omega
      have t1 : ¬ ((k : Int) < 0) := by omega
      have hka : k ≤ ac := by omega
      have hw2 : IntKind.i64.wrap ((k : Int) + 1) = (k : Int) + 1 := IntWalk.i64_in _ (by omega)
      have HK := Lib.hid (And.intro hk hlt)
      cases hnd : nd1 q with
      | some b =>
        simp only [hnd, ptrN, Option.map_some, Option.map_none] at hlk
        have HC := Lib.hid (And.intro hce hlk)
        have HSame : Hid (mkS S ps (k + 1) = mkS S ps k) := by
          show _ = _
          rw [hs]
          unfold put1
          obtain ⟨nn, hn1, _⟩ := hT.has hnd
          rw [hn1]; rfl
        clear hT hS htx hun hrow hJ hs hce hlk hst hnd hk hlt hq
        go_wp2_with (go_at_call 35; refine HJ.out.mono ?_; rintro e w2 ⟨rfl, hB⟩; have hc0 := HC.out.1 _ hB; have hl0 := HC.out.2 _ hB; have HB := Lib.hid hB; clear hB)
        exact ⟨⟨k + 1, by have := HK.out; omega, by go_num, who1, nd1, by rw [HSame.out]; exact HR.out.1.low HB.out, HR.out.2.low HB.out⟩, by have := HK.out; simp [intOf]; omega⟩
      | none =>
        simp only [hnd, ptrN, Option.map_some, Option.map_none] at hlk
        have HC := Lib.hid (And.intro hce (And.intro hlk hst))
        have HSame : Hid (mkS S ps (k + 1) = setS (mkS S ps k) q .new) := by
          show _ = _
          rw [hs]
          unfold put1
          rw [hT.none_of hnd]; rfl
        clear hT hS htx hun hrow hJ hs hce hlk hst hnd hk hlt hq
        go_wp2_with (go_at_call 35; refine HJ.out.mono ?_; rintro e w2 ⟨rfl, hB⟩; have hc0 := HC.out.1 _ hB; have hl0 := HC.out.2.1 _ hB; obtain ⟨w3, hup, hT3, hS3⟩ := HC.out.2.2 _ hB; have HB := Lib.hid (And.intro hB (And.intro hT3 hS3)); clear hB hT3 hS3)
        exact ⟨⟨k + 1, by have := HK.out; omega, by go_num, _, _, by rw [HSame.out]; exact HB.out.2.1, (HR.out.2.low HB.out.1).trans HB.out.2.2⟩, by have := HK.out; simp [intOf]; omega⟩
    · have hke : k = n + 1 := by omega
      subst hke
      have t0 : decide (((n + 1 : Nat) : Int) < (n : Int) + 1) = false := by rw [decide_eq_false_iff_not]; omega
      clear hT hS hk hlt
      go_wp2_with fail
      go_ret
      exact ⟨rfl, who1, nd1, HR.out.1, (Stp.of_below HP.out.2).trans HR.out.2⟩
end Go.Proofs.YtjgdfgpnmmkjfaaGreatDoor

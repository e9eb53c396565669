/- Keys, Values; the reference's Keys, Values. Printed by mkTell5.py. The reference's Filter, Invert. Printed by mkTell6.py. DictTells: the walk. -/
import Derived.Test.YtpaffocniniakaaGreatTellA
import Derived.Test.YtpaffocniniakaaGreatTell4
import Derived.IntWalk
namespace Go.Proofs.YtpaffocniniakaaGreat
set_option linter.unusedVariables false
set_option linter.unusedSimpArgs false
open Go.RowKit Go.MapKept Go.WideMaps

theorem side_keys (ps : Prs) : ps.map (sideP 0) = keysP ps := rfl
set_option maxRecDepth 100000 in
set_option maxHeartbeats 800000 in
theorem Keys_any (s pat : Bs) (hs : s.length ≤ 19999) (hp : pat.length ≤ 1000000) (w : World) :
    Calls Tryz.prog 15 #[.string ⟨s.toArray⟩, .string ⟨pat.toArray⟩] w fun e w' => ∃ v, e = .returned (.tuple #[v, .int .i64 (everyC 0 s pat).2]) ∧ TxtRow w' v (everyC 0 s pat).1 ∧ Below w.heap.size w w' := by
  have hB1 : Below w.heap.size w (w.alloc (.cells #[.string ⟨pat.toArray⟩] 9)) := (Below.refl _ w).alloc (Nat.le_refl _) _
  have hx1 := (Boxed.new w 9 (.string ⟨pat.toArray⟩)).cell
  have hsz : (w.alloc (.cells #[.string ⟨pat.toArray⟩] 9)).heap.size = w.heap.size + 1 := by simp
  have RD := read_any s hs (w.alloc (.cells #[.string ⟨pat.toArray⟩] 9))
  have HB1 := Lib.hid hB1
  unfold everyC
  cases hr : readC s with
  | none =>
    have RD2 : Hid (Calls Tryz.prog 27 #[.string ⟨s.toArray⟩] (w.alloc (.cells #[.string ⟨pat.toArray⟩] 9)) fun e w' => Below w.heap.size w w' ∧ e = .returned (.tuple #[.pointer none, .int .i64 11])) := RD.mono fun e w' ⟨h1, h2⟩ => ⟨hB1.trans (h1.mono (by omega)), by
      rcases h2 with ⟨_, h'⟩ | ⟨_, _, _, h', _⟩
      · exact h'
      · rw [hr] at h'; cases h'⟩
    clear RD hr hx1 hsz hB1
    go_enter Tryz.func15, Tryz.ntmps15
    go_wp2_with (go_at_call 27; refine RD2.out.mono ?_; rintro e w1 ⟨hB1, rfl⟩; have H1 := Lib.hid hB1; clear hB1)
    go_ret2
    exact ⟨_, rfl, TxtRow.nil _, H1.out⟩
  | some ps =>
    have hrl := read_len hr
    have hlen : (keysP ps).length = ps.length := by simp [keysP]
    have hkl : ∀ k ∈ keysP ps, k.length ≤ 1000000 := fun k hk => by
      obtain ⟨p, hp', rfl⟩ := List.mem_map.1 hk
      have := read_mem hr hp'
      omega
    have RD2 : Hid (Calls Tryz.prog 27 #[.string ⟨s.toArray⟩] (w.alloc (.cells #[.string ⟨pat.toArray⟩] 9)) fun e w' => ∃ b kv vv m, e = .returned (.tuple #[.pointer (some ⟨b, 0, none⟩), .int .i64 0]) ∧ w'.heap[b]? = some (.cells #[kv, .map (some m), vv] 48 (0, 0)) ∧ w'.ownsRow (w.heap.size + 1) 9 1 kv ps.length ((keysP ps).map sv) ∧ Below (w.heap.size + 1) (w.alloc (.cells #[.string ⟨pat.toArray⟩] 9)) w') := RD.mono fun e w' ⟨h1, h2⟩ => by
      rcases h2 with ⟨h', _⟩ | ⟨b2, F2, ps', h', he, hb, hF⟩
      · rw [hr] at h'; cases h'
      · rw [hr] at h'; cases h'
        obtain ⟨kv, vv, m, hbb, hk, hv, _, hFe, _⟩ := hb.ex
        refine ⟨b2, kv, vv, m, he, hbb, ?_, by rw [← hsz]; exact h1⟩
        have h := hk
        refine ⟨h.1, h.2.imp id fun ⟨g, c, cur, q1, q2, q3⟩ => ⟨g, c, cur, q1, ?_, q3⟩⟩
        have := hF g (by rw [hFe, q1]; simp [Value.ownBlock])
        omega
    have DE : Hid (∀ W v, Below (w.heap.size + 1) (w.alloc (.cells #[.string ⟨pat.toArray⟩] 9)) W → W.ownsRow (w.heap.size + 1) 9 1 v ps.length ((keysP ps).map sv) → Calls Tryz.prog 31 #[v, .func (.func 32) #[] #[.pointer (some ⟨w.heap.size, 0, none⟩)]] W fun e w' => ∃ v', e = .returned v' ∧ TxtRow w' v' ((keysP ps).filter (matchP false pat)) ∧ Below (w.heap.size + 1) W w') := fun W v hW ho =>
      del_keys W ((hW.cell (p := ⟨w.heap.size, 0, none⟩) (by show w.heap.size < w.heap.size + 1; omega)).trans hx1) (by omega) (by have := hW.size; omega) hp hkl (by omega) (by rw [hlen]; exact ho)
    have HSZ := Lib.hid hsz
    clear RD hr hx1 hsz hB1 hkl hlen hrl
    simp only
    rw [side_keys]
    generalize (keysP ps).filter (matchP false pat) = rs at *
    generalize ps.length = n at *
    go_enter Tryz.func15, Tryz.ntmps15
    go_wp2_with (first | (go_at_call 27; refine RD2.out.mono ?_; rintro e w1 ⟨b, kv, vv, m, rfl, hbb, ho, hB1⟩; obtain ⟨c0, _, c2, _⟩ := cells3 hbb; have H1 := Lib.hid (And.intro ho hB1); clear ho hB1 hbb) | (go_at_call 31; refine (DE.out _ _ H1.out.2 H1.out.1).mono ?_; rintro e w2 ⟨v2, rfl, ht2, hB2⟩; have H2 := Lib.hid (And.intro ht2 hB2); clear ht2 hB2))
    go_ret2
    have hB3 := H1.out.2.trans H2.out.2
    exact ⟨_, rfl, H2.out.1, HB1.out.trans ⟨hB3.os, hB3.tape, hB3.output, hB3.size, fun k hk => hB3.block k (by omega)⟩⟩
set_option maxHeartbeats 400000 in
theorem rKeys_any (s pat : Bs) (hs : s.length ≤ 19999) (hp : pat.length ≤ 1000000) (w : World) :
    Calls Tryz.prog 16 #[.string ⟨s.toArray⟩, .string ⟨pat.toArray⟩] w fun e w' => ∃ v, e = .returned (.tuple #[v, .int .i64 (everyC 0 s pat).2]) ∧ TxtRow w' v (everyC 0 s pat).1 ∧ Below w.heap.size w w' := by
  have EV : Hid (Calls Tryz.prog 34 #[.string ⟨s.toArray⟩, .string ⟨pat.toArray⟩, .int .i64 0] w fun e w' => ∃ v, e = .returned (.tuple #[v, .int .i64 (everyC 0 s pat).2]) ∧ TxtRow w' v (everyC 0 s pat).1 ∧ Below w.heap.size w w') := every_any s pat 0 (by omega) hs hp w
  generalize everyC 0 s pat = q at *
  go_enter Tryz.func16, Tryz.ntmps16
  go_wp2_with (go_at_call 34; refine EV.out.mono ?_; rintro e w1 ⟨v1, rfl, ht1, hB1⟩; have H1 := Lib.hid (And.intro ht1 hB1); clear ht1 hB1)
  go_ret2
  exact ⟨_, rfl, H1.out.1, H1.out.2⟩
theorem side_values (ps : Prs) : ps.map (sideP 1) = valsP ps := rfl
set_option maxRecDepth 100000 in
set_option maxHeartbeats 800000 in
theorem Values_any (s pat : Bs) (hs : s.length ≤ 19999) (hp : pat.length ≤ 1000000) (w : World) :
    Calls Tryz.prog 17 #[.string ⟨s.toArray⟩, .string ⟨pat.toArray⟩] w fun e w' => ∃ v, e = .returned (.tuple #[v, .int .i64 (everyC 1 s pat).2]) ∧ TxtRow w' v (everyC 1 s pat).1 ∧ Below w.heap.size w w' := by
  have hB1 : Below w.heap.size w (w.alloc (.cells #[.string ⟨pat.toArray⟩] 9)) := (Below.refl _ w).alloc (Nat.le_refl _) _
  have hx1 := (Boxed.new w 9 (.string ⟨pat.toArray⟩)).cell
  have hsz : (w.alloc (.cells #[.string ⟨pat.toArray⟩] 9)).heap.size = w.heap.size + 1 := by simp
  have RD := read_any s hs (w.alloc (.cells #[.string ⟨pat.toArray⟩] 9))
  have HB1 := Lib.hid hB1
  unfold everyC
  cases hr : readC s with
  | none =>
    have RD2 : Hid (Calls Tryz.prog 27 #[.string ⟨s.toArray⟩] (w.alloc (.cells #[.string ⟨pat.toArray⟩] 9)) fun e w' => Below w.heap.size w w' ∧ e = .returned (.tuple #[.pointer none, .int .i64 11])) := RD.mono fun e w' ⟨h1, h2⟩ => ⟨hB1.trans (h1.mono (by omega)), by
      rcases h2 with ⟨_, h'⟩ | ⟨_, _, _, h', _⟩
      · exact h'
      · rw [hr] at h'; cases h'⟩
    clear RD hr hx1 hsz hB1
    go_enter Tryz.func17, Tryz.ntmps17
    go_wp2_with (go_at_call 27; refine RD2.out.mono ?_; rintro e w1 ⟨hB1, rfl⟩; have H1 := Lib.hid hB1; clear hB1)
    go_ret2
    exact ⟨_, rfl, TxtRow.nil _, H1.out⟩
  | some ps =>
    have hrl := read_len hr
    have hlen : (valsP ps).length = ps.length := by simp [valsP]
    have hkl : ∀ k ∈ valsP ps, k.length ≤ 1000000 := fun k hk => by
      obtain ⟨p, hp', rfl⟩ := List.mem_map.1 hk
      have := read_mem hr hp'
      omega
    have RD2 : Hid (Calls Tryz.prog 27 #[.string ⟨s.toArray⟩] (w.alloc (.cells #[.string ⟨pat.toArray⟩] 9)) fun e w' => ∃ b kv vv m, e = .returned (.tuple #[.pointer (some ⟨b, 0, none⟩), .int .i64 0]) ∧ w'.heap[b]? = some (.cells #[kv, .map (some m), vv] 48 (0, 0)) ∧ w'.ownsRow (w.heap.size + 1) 9 1 vv ps.length ((valsP ps).map sv) ∧ Below (w.heap.size + 1) (w.alloc (.cells #[.string ⟨pat.toArray⟩] 9)) w') := RD.mono fun e w' ⟨h1, h2⟩ => by
      rcases h2 with ⟨h', _⟩ | ⟨b2, F2, ps', h', he, hb, hF⟩
      · rw [hr] at h'; cases h'
      · rw [hr] at h'; cases h'
        obtain ⟨kv, vv, m, hbb, hk, hv, _, hFe, _⟩ := hb.ex
        refine ⟨b2, kv, vv, m, he, hbb, ?_, by rw [← hsz]; exact h1⟩
        have h := hv
        refine ⟨h.1, h.2.imp id fun ⟨g, c, cur, q1, q2, q3⟩ => ⟨g, c, cur, q1, ?_, q3⟩⟩
        have := hF g (by rw [hFe, q1]; simp [Value.ownBlock])
        omega
    have DE : Hid (∀ W v, Below (w.heap.size + 1) (w.alloc (.cells #[.string ⟨pat.toArray⟩] 9)) W → W.ownsRow (w.heap.size + 1) 9 1 v ps.length ((valsP ps).map sv) → Calls Tryz.prog 31 #[v, .func (.func 35) #[] #[.pointer (some ⟨w.heap.size, 0, none⟩)]] W fun e w' => ∃ v', e = .returned v' ∧ TxtRow w' v' ((valsP ps).filter (matchP false pat)) ∧ Below (w.heap.size + 1) W w') := fun W v hW ho =>
      del_values W ((hW.cell (p := ⟨w.heap.size, 0, none⟩) (by show w.heap.size < w.heap.size + 1; omega)).trans hx1) (by omega) (by have := hW.size; omega) hp hkl (by omega) (by rw [hlen]; exact ho)
    have HSZ := Lib.hid hsz
    clear RD hr hx1 hsz hB1 hkl hlen hrl
    simp only
    rw [side_values]
    generalize (valsP ps).filter (matchP false pat) = rs at *
    generalize ps.length = n at *
    go_enter Tryz.func17, Tryz.ntmps17
    go_wp2_with (first | (go_at_call 27; refine RD2.out.mono ?_; rintro e w1 ⟨b, kv, vv, m, rfl, hbb, ho, hB1⟩; obtain ⟨c0, _, c2, _⟩ := cells3 hbb; have H1 := Lib.hid (And.intro ho hB1); clear ho hB1 hbb) | (go_at_call 31; refine (DE.out _ _ H1.out.2 H1.out.1).mono ?_; rintro e w2 ⟨v2, rfl, ht2, hB2⟩; have H2 := Lib.hid (And.intro ht2 hB2); clear ht2 hB2))
    go_ret2
    have hB3 := H1.out.2.trans H2.out.2
    exact ⟨_, rfl, H2.out.1, HB1.out.trans ⟨hB3.os, hB3.tape, hB3.output, hB3.size, fun k hk => hB3.block k (by omega)⟩⟩
set_option maxHeartbeats 400000 in
theorem rValues_any (s pat : Bs) (hs : s.length ≤ 19999) (hp : pat.length ≤ 1000000) (w : World) :
    Calls Tryz.prog 18 #[.string ⟨s.toArray⟩, .string ⟨pat.toArray⟩] w fun e w' => ∃ v, e = .returned (.tuple #[v, .int .i64 (everyC 1 s pat).2]) ∧ TxtRow w' v (everyC 1 s pat).1 ∧ Below w.heap.size w w' := by
  have EV : Hid (Calls Tryz.prog 34 #[.string ⟨s.toArray⟩, .string ⟨pat.toArray⟩, .int .i64 1] w fun e w' => ∃ v, e = .returned (.tuple #[v, .int .i64 (everyC 1 s pat).2]) ∧ TxtRow w' v (everyC 1 s pat).1 ∧ Below w.heap.size w w') := every_any s pat 1 (by omega) hs hp w
  generalize everyC 1 s pat = q at *
  go_enter Tryz.func18, Tryz.ntmps18
  go_wp2_with (go_at_call 34; refine EV.out.mono ?_; rintro e w1 ⟨v1, rfl, ht1, hB1⟩; have H1 := Lib.hid (And.intro ht1 hB1); clear ht1 hB1)
  go_ret2
  exact ⟨_, rfl, H1.out.1, H1.out.2⟩
end Go.Proofs.YtpaffocniniakaaGreat
namespace Go.Proofs.YtpaffocniniakaaGreat
set_option linter.unusedVariables false
set_option linter.unusedSimpArgs false
open Go.RowKit

theorem fil_take {ps : Prs} {j : Nat} (h : j < ps.length) (f : Bs × Bs → Bool) : (ps.take (j + 1)).filter f = (ps.take j).filter f ++ if f ps[j] then [ps[j]] else [] := by
  rw [List.take_succ_eq_append_getElem h, List.filter_append]
  by_cases hf : f ps[j] = true
  · rw [if_pos hf]; simp [hf]
  · rw [if_neg hf]; simp [hf]
theorem chg0 (s : Bs) (res : Prs → Prs) : chgE s (fun _ => 0) res = match readC s with | none => ([], 11) | some ps => joinE (flatP (res ps)) := by
  unfold chgE
  cases readC s <;> rfl
set_option maxRecDepth 100000 in
set_option maxHeartbeats 1600000 in
theorem rFilter_false (s pat : Bs) (hs : s.length ≤ 19999) (hp : pat.length ≤ 1000000) (w : World) :
    Calls Tryz.prog 20 #[.string ⟨s.toArray⟩, .string ⟨pat.toArray⟩, .bool false] w fun e w' => e = .returned (.tuple #[.string ⟨(filC s pat false).1.toArray⟩, .int .i64 (filC s pat false).2]) ∧ Below w.heap.size w w' := by
  unfold filC
  rw [chg0]
  cases hr : readC s with
  | none =>
    have P1 := Lib.hid (rp_none hs hr w)
    clear hr
    go_enter Tryz.func20, Tryz.ntmps20
    go_wp2_with (go_at_call 13; refine P1.out.mono ?_; rintro e w1 ⟨rfl, hB1⟩; have H1 := Lib.hid hB1; clear hB1)
    go_ret2
    exact ⟨rfl, H1.out⟩
  | some ps =>
    have P1 := Lib.hid (rp_some hs hr w)
    have hrl := read_len hr
    have hfl := flatP_len ps
    have JO : Hid (∀ v W, TxtRow W v (flatP (ps.filter (filP false pat))) → Calls Tryz.prog 26 #[v] W fun e w' => e = .returned (.tuple #[.string ⟨(joinE (flatP (ps.filter (filP false pat)))).1.toArray⟩, .int .i64 (joinE (flatP (ps.filter (filP false pat)))).2]) ∧ Below W.heap.size W w') := fun v W h => rJoin_any v _ W h (fun x hx => by
      obtain ⟨p, hp, hx'⟩ := mem_flat hx
      have := read_mem hr (List.mem_filter.1 hp).1
      rcases hx' with rfl | rfl <;> omega)
    simp only
    obtain ⟨q, hq⟩ : ∃ q, joinE (flatP (ps.filter (filP false pat))) = q := ⟨_, rfl⟩
    rw [hq] at JO ⊢
    have GL : Hid (∀ W p, p ∈ ps → Calls Tryz.prog 39 #[.string ⟨pat.toArray⟩, .string ⟨p.1.toArray⟩, .bool false] W fun e w' => e = .returned (.bool (filP false pat p)) ∧ Below W.heap.size W w') := fun W p hpm => rglob_m pat p.1 false hp (by have := read_mem hr hpm; omega) W
    obtain ⟨n, hn⟩ : ∃ n, (flatP ps).length = n := ⟨_, rfl⟩
    rw [hn] at P1
    have HN := Lib.hid (And.intro hn (And.intro hfl hrl))
    have hn2 : n ≤ 100000 := by omega
    clear hq hn hfl hrl hr
    go_enter Tryz.func20, Tryz.ntmps20
    go_wp2_with (go_at_call 13; refine P1.out.mono ?_; rintro e w1 ⟨o1, c1, rfl, hB1, hT1⟩; have H1 := Lib.hid (And.intro hB1 hT1); clear hB1 hT1)
    go_loopg [11, 12] ps.length (fun g out i wr => ∃ (j : Nat), j + g = ps.length ∧ i = .int .i64 ((2 * j : Nat) : Int) ∧ Hid (wr.ownsRow w1.heap.size 9 1 out (flatP ((ps.take j).filter (filP false pat))).length ((flatP ((ps.take j).filter (filP false pat))).map sv)) ∧ Below w1.heap.size w1 wr)
    case atStart => exact ⟨0, by omega, rfl, World.ownsRow_nil _ _ _ _, Below.refl _ _⟩
    case round =>
      obtain ⟨j, hjg, rfl, HO, hb⟩ := hrel
      obtain ⟨hn, hfl, hrl⟩ := HN.out
      obtain ⟨ao, cap, rfl⟩ := owns_slice HO.out
      have hlf := List.length_filter_le (filP false pat) (ps.take j)
      rw [List.length_take] at hlf
      have hff := flatP_len ((ps.take j).filter (filP false pat))
      by_cases hlt : j < ps.length
      · obtain ⟨z1, hc0, hcm0, h0⟩ := (H1.out.2.below hb).at_
        obtain ⟨g0, f0, rfl, hl0, hc00⟩ := h0 (2 * j) (by omega)
        obtain ⟨g0', f0', e, _, hc01⟩ := h0 (2 * j + 1) (by omega)
        cases e
        rw [(flat_at' hlt).1] at hc00
        rw [(flat_at' hlt).2] at hc01
        have GL2 := Lib.hid (GL.out wr _ (List.getElem_mem hlt))
        have HFT : Hid ((ps.take (j + 1)).filter (filP false pat) = (ps.take j).filter (filP false pat) ++ if filP false pat ps[j] then [(ps[j].1, ps[j].2)] else []) := fil_take hlt _
        generalize filP false pat ps[j] = fb at *
        generalize ps[j].1 = k at *
        generalize ps[j].2 = u at *
        obtain ⟨jj, hjj⟩ : ∃ jj, 2 * j = jj := ⟨_, rfl⟩
        rw [hjj] at hc00 hc01 ⊢
        have hA : wr.cell? ⟨g0, f0 + jj, none⟩ = some (.string ⟨k.toArray⟩) := hc00
        have hB : wr.cell? ⟨g0, f0 + (jj + 1), none⟩ = some (.string ⟨u.toArray⟩) := hc01
        have i1 : jj < n := by omega
        have i3 : (0 : Int) ≤ (jj : Int) + 1 := by omega
        have i4 : (jj : Int) + 1 < (n : Int) := by omega
        have i6 : jj ≤ 100000 := by omega
        have hj5 : IntKind.i64.wrap ((jj : Int) + 1) = (jj : Int) + 1 := IntWalk.i64_in _ (by omega)
        have t0 : decide ((jj : Int) < (n : Int)) = true := by rw [decide_eq_true_eq]; omega
        obtain ⟨acc, hacc⟩ : ∃ acc, (ps.take j).filter (filP false pat) = acc := ⟨_, rfl⟩
        rw [hacc] at HO HFT hff hlf
        have hal : (flatP acc).length ≤ 100000 := by omega
        obtain ⟨fa, hfa⟩ : ∃ fa, (flatP acc).length = fa := ⟨_, rfl⟩
        rw [hfa] at hal
        have HFA := Lib.hid hfa
        rw [hacc, hfa]
        rw [hfa] at HO
        have HJ := Lib.hid (And.intro hjj hjg)
        have HB := Lib.hid hb
        have OW : Hid (∀ W, Below wr.heap.size wr W → W.cell? ⟨g0, f0 + jj, none⟩ = some (.string ⟨k.toArray⟩) ∧ W.cell? ⟨g0, f0 + (jj + 1), none⟩ = some (.string ⟨u.toArray⟩) ∧ W.ownsRow w1.heap.size 9 1 (.slice ao fa cap) fa ((flatP acc).map sv)) := fun W h => ⟨(h.cell (p := ⟨g0, f0 + jj, none⟩) hl0).trans hc00, (h.cell (p := ⟨g0, f0 + (jj + 1), none⟩) hl0).trans hc01, ownsRow_kp HO.out (kp_of_below h) (by simp)⟩
        clear hjj hjg hn hfl hrl z1 hc0 hcm0 h0 hc00 hc01 hb hlt hacc hfa hff hlf GL
        cases fb with
        | false =>
          go_wp2_with (go_at_call 39; refine GL2.out.mono ?_; rintro e w2 ⟨rfl, hB2⟩; have H2 := Lib.hid hB2; clear hB2)
          go_roundg (gk - 1)
          case measure => have := HJ.out; have := HN.out; omega
          case rel =>
            have hj := HJ.out
            have hn := HN.out
            refine ⟨j + 1, by omega, by rw [show 2 * (j + 1) = jj + 2 by omega]; go_num, ?_, HB.out.trans (H2.out.mono HB.out.size)⟩
            show World.ownsRow _ _ _ _ _ _ _
            rw [HFT.out]
            simp only [Bool.false_eq_true, if_false, List.append_nil]
            rw [HFA.out]
            exact (OW.out _ H2.out).2.2
        | true =>
          go_wp2_with (go_at_call 39; refine GL2.out.mono ?_; rintro e w2 ⟨rfl, hB2⟩; obtain ⟨hA2, hB2', hO2⟩ := OW.out _ hB2; have hAd : w2.drew.cell? ⟨g0, f0 + jj, none⟩ = some (.string ⟨k.toArray⟩) := hA2; have hBd : w2.drew.cell? ⟨g0, f0 + (jj + 1), none⟩ = some (.string ⟨u.toArray⟩) := hB2'; have H2 := Lib.hid (And.intro hB2 (show w2.drew.ownsRow w1.heap.size 9 1 (.slice ao fa cap) fa ((flatP acc).map sv) from hO2)); clear hB2 hO2)
          go_region_law (refine step_append_two rfl (.tmp 36) (.tmp 46) 30 rfl w1.heap.size 9 (.string ⟨#[]⟩) 16 Tryz.underlying30 infoStr rfl (.slice ao fa cap) fa _ (by simp [Act.eval, Act.put]) w2.drew H2.out.2 (.string ⟨k.toArray⟩) (.string ⟨u.toArray⟩) rfl (by simp [Act.eval, Act.put]) rfl rfl (by unfold maxLen; omega) (by omega) (by show w1.heap.size ≤ w2.heap.size; exact Nat.le_trans HB.out.size H2.out.1.size) ?_; intro g c2 w3 hg hown3 hb3; have HOW := Lib.hid (And.intro hown3 hb3); clear hown3 hb3)
          all_goals
            go_wp2_with fail
            go_roundg (gk - 1)
            case measure => have := HJ.out; have := HN.out; omega
            case rel =>
              have hj := HJ.out
              have hn := HN.out
              refine ⟨j + 1, by omega, by rw [show 2 * (j + 1) = jj + 2 by omega]; go_num, ?_, (HB.out.trans (H2.out.1.mono HB.out.size)).trans ((Below.refl _ _).drew.trans HOW.out.2)⟩
              show World.ownsRow _ _ _ _ _ _ _
              rw [HFT.out]
              simp only [if_true]
              rw [flatP_append, List.length_append, List.map_append, HFA.out]
              exact HOW.out.1
      · obtain rfl : j = ps.length := by omega
        have HTR := Lib.hid (TxtRow.of_owns HO.out)
        rw [List.take_length] at HTR ⊢
        have HQ := Lib.hid (JO.out _ _ HTR.out)
        have t0 : decide ((n : Int) < (n : Int)) = false := by rw [decide_eq_false_iff_not]; omega
        rw [show 2 * ps.length = n by omega]
        have hbw := Lib.hid (H1.out.1.trans (hb.mono H1.out.1.size))
        generalize (flatP (ps.filter (filP false pat))).length = fa at *
        clear hn hfl hrl hjg hlt hlf hff hb
        go_wp2_with (go_at_call 26; refine HQ.out.mono ?_; rintro e w3 ⟨rfl, hB3⟩; have H3 := Lib.hid hB3; clear hB3)
        go_ret2
        exact ⟨rfl, hbw.out.trans (H3.out.mono hbw.out.size)⟩
set_option maxRecDepth 100000 in
set_option maxHeartbeats 1600000 in
theorem rFilter_true (s pat : Bs) (hs : s.length ≤ 19999) (hp : pat.length ≤ 1000000) (w : World) :
    Calls Tryz.prog 20 #[.string ⟨s.toArray⟩, .string ⟨pat.toArray⟩, .bool true] w fun e w' => e = .returned (.tuple #[.string ⟨(filC s pat true).1.toArray⟩, .int .i64 (filC s pat true).2]) ∧ Below w.heap.size w w' := by
  unfold filC
  rw [chg0]
  cases hr : readC s with
  | none =>
    have P1 := Lib.hid (rp_none hs hr w)
    clear hr
    go_enter Tryz.func20, Tryz.ntmps20
    go_wp2_with (go_at_call 13; refine P1.out.mono ?_; rintro e w1 ⟨rfl, hB1⟩; have H1 := Lib.hid hB1; clear hB1)
    go_ret2
    exact ⟨rfl, H1.out⟩
  | some ps =>
    have P1 := Lib.hid (rp_some hs hr w)
    have hrl := read_len hr
    have hfl := flatP_len ps
    have JO : Hid (∀ v W, TxtRow W v (flatP (ps.filter (filP true pat))) → Calls Tryz.prog 26 #[v] W fun e w' => e = .returned (.tuple #[.string ⟨(joinE (flatP (ps.filter (filP true pat)))).1.toArray⟩, .int .i64 (joinE (flatP (ps.filter (filP true pat)))).2]) ∧ Below W.heap.size W w') := fun v W h => rJoin_any v _ W h (fun x hx => by
      obtain ⟨p, hp, hx'⟩ := mem_flat hx
      have := read_mem hr (List.mem_filter.1 hp).1
      rcases hx' with rfl | rfl <;> omega)
    simp only
    obtain ⟨q, hq⟩ : ∃ q, joinE (flatP (ps.filter (filP true pat))) = q := ⟨_, rfl⟩
    rw [hq] at JO ⊢
    have GL : Hid (∀ W p, p ∈ ps → Calls Tryz.prog 39 #[.string ⟨pat.toArray⟩, .string ⟨p.2.toArray⟩, .bool false] W fun e w' => e = .returned (.bool (filP true pat p)) ∧ Below W.heap.size W w') := fun W p hpm => rglob_m pat p.2 false hp (by have := read_mem hr hpm; omega) W
    obtain ⟨n, hn⟩ : ∃ n, (flatP ps).length = n := ⟨_, rfl⟩
    rw [hn] at P1
    have HN := Lib.hid (And.intro hn (And.intro hfl hrl))
    have hn2 : n ≤ 100000 := by omega
    clear hq hn hfl hrl hr
    go_enter Tryz.func20, Tryz.ntmps20
    go_wp2_with (go_at_call 13; refine P1.out.mono ?_; rintro e w1 ⟨o1, c1, rfl, hB1, hT1⟩; have H1 := Lib.hid (And.intro hB1 hT1); clear hB1 hT1)
    go_loopg [11, 12] ps.length (fun g out i wr => ∃ (j : Nat), j + g = ps.length ∧ i = .int .i64 ((2 * j : Nat) : Int) ∧ Hid (wr.ownsRow w1.heap.size 9 1 out (flatP ((ps.take j).filter (filP true pat))).length ((flatP ((ps.take j).filter (filP true pat))).map sv)) ∧ Below w1.heap.size w1 wr)
    case atStart => exact ⟨0, by omega, rfl, World.ownsRow_nil _ _ _ _, Below.refl _ _⟩
    case round =>
      obtain ⟨j, hjg, rfl, HO, hb⟩ := hrel
      obtain ⟨hn, hfl, hrl⟩ := HN.out
      obtain ⟨ao, cap, rfl⟩ := owns_slice HO.out
      have hlf := List.length_filter_le (filP true pat) (ps.take j)
      rw [List.length_take] at hlf
      have hff := flatP_len ((ps.take j).filter (filP true pat))
      by_cases hlt : j < ps.length
      · obtain ⟨z1, hc0, hcm0, h0⟩ := (H1.out.2.below hb).at_
        obtain ⟨g0, f0, rfl, hl0, hc00⟩ := h0 (2 * j) (by omega)
        obtain ⟨g0', f0', e, _, hc01⟩ := h0 (2 * j + 1) (by omega)
        cases e
        rw [(flat_at' hlt).1] at hc00
        rw [(flat_at' hlt).2] at hc01
        have GL2 := Lib.hid (GL.out wr _ (List.getElem_mem hlt))
        have HFT : Hid ((ps.take (j + 1)).filter (filP true pat) = (ps.take j).filter (filP true pat) ++ if filP true pat ps[j] then [(ps[j].1, ps[j].2)] else []) := fil_take hlt _
        generalize filP true pat ps[j] = fb at *
        generalize ps[j].1 = k at *
        generalize ps[j].2 = u at *
        obtain ⟨jj, hjj⟩ : ∃ jj, 2 * j = jj := ⟨_, rfl⟩
        rw [hjj] at hc00 hc01 ⊢
        have hA : wr.cell? ⟨g0, f0 + jj, none⟩ = some (.string ⟨k.toArray⟩) := hc00
        have hB : wr.cell? ⟨g0, f0 + (jj + 1), none⟩ = some (.string ⟨u.toArray⟩) := hc01
        have i1 : jj < n := by omega
        have i3 : (0 : Int) ≤ (jj : Int) + 1 := by omega
        have i4 : (jj : Int) + 1 < (n : Int) := by omega
        have i6 : jj ≤ 100000 := by omega
        have hj5 : IntKind.i64.wrap ((jj : Int) + 1) = (jj : Int) + 1 := IntWalk.i64_in _ (by omega)
        have t0 : decide ((jj : Int) < (n : Int)) = true := by rw [decide_eq_true_eq]; omega
        obtain ⟨acc, hacc⟩ : ∃ acc, (ps.take j).filter (filP true pat) = acc := ⟨_, rfl⟩
        rw [hacc] at HO HFT hff hlf
        have hal : (flatP acc).length ≤ 100000 := by omega
        obtain ⟨fa, hfa⟩ : ∃ fa, (flatP acc).length = fa := ⟨_, rfl⟩
        rw [hfa] at hal
        have HFA := Lib.hid hfa
        rw [hacc, hfa]
        rw [hfa] at HO
        have HJ := Lib.hid (And.intro hjj hjg)
        have HB := Lib.hid hb
        have OW : Hid (∀ W, Below wr.heap.size wr W → W.cell? ⟨g0, f0 + jj, none⟩ = some (.string ⟨k.toArray⟩) ∧ W.cell? ⟨g0, f0 + (jj + 1), none⟩ = some (.string ⟨u.toArray⟩) ∧ W.ownsRow w1.heap.size 9 1 (.slice ao fa cap) fa ((flatP acc).map sv)) := fun W h => ⟨(h.cell (p := ⟨g0, f0 + jj, none⟩) hl0).trans hc00, (h.cell (p := ⟨g0, f0 + (jj + 1), none⟩) hl0).trans hc01, ownsRow_kp HO.out (kp_of_below h) (by simp)⟩
        clear hjj hjg hn hfl hrl z1 hc0 hcm0 h0 hc00 hc01 hb hlt hacc hfa hff hlf GL
        cases fb with
        | false =>
          go_wp2_with (go_at_call 39; refine GL2.out.mono ?_; rintro e w2 ⟨rfl, hB2⟩; have H2 := Lib.hid hB2; clear hB2)
          go_roundg (gk - 1)
          case measure => have := HJ.out; have := HN.out; omega
          case rel =>
            have hj := HJ.out
            have hn := HN.out
            refine ⟨j + 1, by omega, by rw [show 2 * (j + 1) = jj + 2 by omega]; go_num, ?_, HB.out.trans (H2.out.mono HB.out.size)⟩
            show World.ownsRow _ _ _ _ _ _ _
            rw [HFT.out]
            simp only [Bool.false_eq_true, if_false, List.append_nil]
            rw [HFA.out]
            exact (OW.out _ H2.out).2.2
        | true =>
          go_wp2_with (go_at_call 39; refine GL2.out.mono ?_; rintro e w2 ⟨rfl, hB2⟩; obtain ⟨hA2, hB2', hO2⟩ := OW.out _ hB2; have hAd : w2.drew.cell? ⟨g0, f0 + jj, none⟩ = some (.string ⟨k.toArray⟩) := hA2; have hBd : w2.drew.cell? ⟨g0, f0 + (jj + 1), none⟩ = some (.string ⟨u.toArray⟩) := hB2'; have H2 := Lib.hid (And.intro hB2 (show w2.drew.ownsRow w1.heap.size 9 1 (.slice ao fa cap) fa ((flatP acc).map sv) from hO2)); clear hB2 hO2)
          go_region_law (refine step_append_two rfl (.tmp 36) (.tmp 46) 30 rfl w1.heap.size 9 (.string ⟨#[]⟩) 16 Tryz.underlying30 infoStr rfl (.slice ao fa cap) fa _ (by simp [Act.eval, Act.put]) w2.drew H2.out.2 (.string ⟨k.toArray⟩) (.string ⟨u.toArray⟩) rfl (by simp [Act.eval, Act.put]) rfl rfl (by unfold maxLen; omega) (by omega) (by show w1.heap.size ≤ w2.heap.size; exact Nat.le_trans HB.out.size H2.out.1.size) ?_; intro g c2 w3 hg hown3 hb3; have HOW := Lib.hid (And.intro hown3 hb3); clear hown3 hb3)
          all_goals
            go_wp2_with fail
            go_roundg (gk - 1)
            case measure => have := HJ.out; have := HN.out; omega
            case rel =>
              have hj := HJ.out
              have hn := HN.out
              refine ⟨j + 1, by omega, by rw [show 2 * (j + 1) = jj + 2 by omega]; go_num, ?_, (HB.out.trans (H2.out.1.mono HB.out.size)).trans ((Below.refl _ _).drew.trans HOW.out.2)⟩
              show World.ownsRow _ _ _ _ _ _ _
              rw [HFT.out]
              simp only [if_true]
              rw [flatP_append, List.length_append, List.map_append, HFA.out]
              exact HOW.out.1
      · obtain rfl : j = ps.length := by omega
        have HTR := Lib.hid (TxtRow.of_owns HO.out)
        rw [List.take_length] at HTR ⊢
        have HQ := Lib.hid (JO.out _ _ HTR.out)
        have t0 : decide ((n : Int) < (n : Int)) = false := by rw [decide_eq_false_iff_not]; omega
        rw [show 2 * ps.length = n by omega]
        have hbw := Lib.hid (H1.out.1.trans (hb.mono H1.out.1.size))
        generalize (flatP (ps.filter (filP true pat))).length = fa at *
        clear hn hfl hrl hjg hlt hlf hff hb
        go_wp2_with (go_at_call 26; refine HQ.out.mono ?_; rintro e w3 ⟨rfl, hB3⟩; have H3 := Lib.hid hB3; clear hB3)
        go_ret2
        exact ⟨rfl, hbw.out.trans (H3.out.mono hbw.out.size)⟩
theorem rFilter_any (s pat : Bs) (values : Bool) (hs : s.length ≤ 19999) (hp : pat.length ≤ 1000000) (w : World) :
    Calls Tryz.prog 20 #[.string ⟨s.toArray⟩, .string ⟨pat.toArray⟩, .bool values] w fun e w' => e = .returned (.tuple #[.string ⟨(filC s pat values).1.toArray⟩, .int .i64 (filC s pat values).2]) ∧ Below w.heap.size w w' := by
  cases values
  · exact rFilter_false s pat hs hp w
  · exact rFilter_true s pat hs hp w
theorem swap_take {ps : Prs} {j : Nat} (h : j < ps.length) : (ps.take (j + 1)).map swapP = (ps.take j).map swapP ++ [(ps[j].2, ps[j].1)] := by
  rw [List.take_succ_eq_append_getElem h, List.map_append]; rfl
set_option maxRecDepth 100000 in
set_option maxHeartbeats 1600000 in
theorem rInvert_any (s : Bs) (hs : s.length ≤ 19999) (w : World) :
    Calls Tryz.prog 22 #[.string ⟨s.toArray⟩] w fun e w' => e = .returned (.tuple #[.string ⟨(invC s).1.toArray⟩, .int .i64 (invC s).2]) ∧ Below w.heap.size w w' := by
  unfold invC
  rw [chg0]
  cases hr : readC s with
  | none =>
    have P1 := Lib.hid (rp_none hs hr w)
    clear hr
    go_enter Tryz.func22, Tryz.ntmps22
    go_wp2_with (go_at_call 13; refine P1.out.mono ?_; rintro e w1 ⟨rfl, hB1⟩; have H1 := Lib.hid hB1; clear hB1)
    go_ret2
    exact ⟨rfl, H1.out⟩
  | some ps =>
    have P1 := Lib.hid (rp_some hs hr w)
    have hrl := read_len hr
    have hfl := flatP_len ps
    have hfs := flatP_len (ps.map swapP)
    rw [List.length_map] at hfs
    have ON : Hid (∀ v W, TxtRow W v (flatP (ps.map swapP)) → Calls Tryz.prog 30 #[v] W fun e w' => ∃ r, e = .returned r ∧ Below W.heap.size W w' ∧ TxtRow w' r (flatP (addP [] (ps.map swapP)))) := fun v W ht => (ronce_any v (flatP (ps.map swapP)) W ht (by omega)).mono fun e w' ⟨r, h1, h2, h3⟩ => ⟨r, h1, h2, by rw [pairs_flat] at h3; exact TxtRow.of_owns h3⟩
    have JO : Hid (∀ v W, TxtRow W v (flatP (addP [] (ps.map swapP))) → Calls Tryz.prog 26 #[v] W fun e w' => e = .returned (.tuple #[.string ⟨(joinE (flatP (addP [] (ps.map swapP)))).1.toArray⟩, .int .i64 (joinE (flatP (addP [] (ps.map swapP)))).2]) ∧ Below W.heap.size W w') := fun v W h => rJoin_any v _ W h (fun x hx => by
      obtain ⟨p, hp, hx'⟩ := mem_flat hx
      rcases mem_addP hp with h1 | h1
      · cases h1
      · obtain ⟨q, hq, rfl⟩ := List.mem_map.1 h1
        have := read_mem hr hq
        unfold swapP at hx'
        rcases hx' with rfl | rfl <;> simp only <;> omega)
    simp only
    obtain ⟨q, hq⟩ : ∃ q, joinE (flatP (addP [] (ps.map swapP))) = q := ⟨_, rfl⟩
    rw [hq] at JO ⊢
    obtain ⟨n, hn⟩ : ∃ n, (flatP ps).length = n := ⟨_, rfl⟩
    rw [hn] at P1
    have HN := Lib.hid (And.intro hn (And.intro hfl hrl))
    have hn2 : n ≤ 100000 := by omega
    clear hq hn hfl hrl hr hfs
    go_enter Tryz.func22, Tryz.ntmps22
    go_wp2_with (go_at_call 13; refine P1.out.mono ?_; rintro e w1 ⟨o1, c1, rfl, hB1, hT1⟩; have H1 := Lib.hid (And.intro hB1 hT1); clear hB1 hT1)
    go_loopg [6, 7] ps.length (fun g out i wr => ∃ (j : Nat), j + g = ps.length ∧ i = .int .i64 ((2 * j : Nat) : Int) ∧ Hid (wr.ownsRow w1.heap.size 9 1 out (flatP ((ps.take j).map swapP)).length ((flatP ((ps.take j).map swapP)).map sv)) ∧ Below w1.heap.size w1 wr)
    case atStart => exact ⟨0, by omega, rfl, World.ownsRow_nil _ _ _ _, Below.refl _ _⟩
    case round =>
      obtain ⟨j, hjg, rfl, HO, hb⟩ := hrel
      obtain ⟨hn, hfl, hrl⟩ := HN.out
      obtain ⟨ao, cap, rfl⟩ := owns_slice HO.out
      have hff := flatP_len ((ps.take j).map swapP)
      rw [List.length_map, List.length_take] at hff
      by_cases hlt : j < ps.length
      · obtain ⟨z1, hc0, hcm0, h0⟩ := (H1.out.2.below hb).at_
        obtain ⟨g0, f0, rfl, hl0, hc00⟩ := h0 (2 * j) (by omega)
        obtain ⟨g0', f0', e, _, hc01⟩ := h0 (2 * j + 1) (by omega)
        cases e
        rw [(flat_at' hlt).1] at hc00
        rw [(flat_at' hlt).2] at hc01
        have HFT := Lib.hid (swap_take hlt)
        generalize ps[j].1 = k at *
        generalize ps[j].2 = u at *
        obtain ⟨jj, hjj⟩ : ∃ jj, 2 * j = jj := ⟨_, rfl⟩
        rw [hjj] at hc00 hc01 ⊢
        have hAd : wr.drew.cell? ⟨g0, f0 + jj, none⟩ = some (.string ⟨k.toArray⟩) := hc00
        have hBd : wr.drew.cell? ⟨g0, f0 + (jj + 1), none⟩ = some (.string ⟨u.toArray⟩) := hc01
        have i1 : jj < n := by omega
        have i3 : (0 : Int) ≤ (jj : Int) + 1 := by omega
        have i4 : (jj : Int) + 1 < (n : Int) := by omega
        have i6 : jj ≤ 100000 := by omega
        have hj5 : IntKind.i64.wrap ((jj : Int) + 1) = (jj : Int) + 1 := IntWalk.i64_in _ (by omega)
        have t0 : decide ((jj : Int) < (n : Int)) = true := by rw [decide_eq_true_eq]; omega
        obtain ⟨acc, hacc⟩ : ∃ acc, (ps.take j).map swapP = acc := ⟨_, rfl⟩
        rw [hacc] at HO HFT hff
        have hal : (flatP acc).length ≤ 100000 := by omega
        obtain ⟨fa, hfa⟩ : ∃ fa, (flatP acc).length = fa := ⟨_, rfl⟩
        rw [hfa] at hal
        have HFA := Lib.hid hfa
        rw [hacc, hfa]
        rw [hfa] at HO
        have HJ := Lib.hid (And.intro hjj hjg)
        have HB := Lib.hid hb
        have HD : Hid (wr.drew.ownsRow w1.heap.size 9 1 (.slice ao fa cap) fa ((flatP acc).map sv)) := HO.out
        clear hjj hjg hn hfl hrl z1 hc0 hcm0 h0 hc00 hc01 hb hlt hacc hfa hff
        go_wp2_with fail
        go_region_law (refine step_append_two rfl (.tmp 22) (.tmp 32) 30 rfl w1.heap.size 9 (.string ⟨#[]⟩) 16 Tryz.underlying30 infoStr rfl (.slice ao fa cap) fa _ (by simp [Act.eval, Act.put]) wr.drew HD.out (.string ⟨u.toArray⟩) (.string ⟨k.toArray⟩) rfl (by simp [Act.eval, Act.put]) rfl rfl (by unfold maxLen; omega) (by omega) (by show w1.heap.size ≤ wr.heap.size; exact HB.out.size) ?_; intro g c2 w3 hg hown3 hb3; have HOW := Lib.hid (And.intro hown3 hb3); clear hown3 hb3)
        all_goals
          go_wp2_with fail
          go_roundg (gk - 1)
          case measure => have := HJ.out; have := HN.out; omega
          case rel =>
            have hj := HJ.out
            have hn := HN.out
            refine ⟨j + 1, by omega, by rw [show 2 * (j + 1) = jj + 2 by omega]; go_num, ?_, HB.out.trans ((Below.refl _ _).drew.trans HOW.out.2)⟩
            show World.ownsRow _ _ _ _ _ _ _
            rw [HFT.out, flatP_append, List.length_append, List.map_append, HFA.out]
            exact HOW.out.1
      · obtain rfl : j = ps.length := by omega
        have HTR := Lib.hid (TxtRow.of_owns HO.out)
        rw [List.take_length] at HTR ⊢
        have HQ := Lib.hid (ON.out _ _ HTR.out)
        have t0 : decide ((n : Int) < (n : Int)) = false := by rw [decide_eq_false_iff_not]; omega
        rw [show 2 * ps.length = n by omega]
        have hbw := Lib.hid (H1.out.1.trans (hb.mono H1.out.1.size))
        generalize (flatP (ps.map swapP)).length = fa at *
        clear hn hfl hrl hjg hlt hff hb
        go_wp2_with (first | (go_at_call 30; refine HQ.out.mono ?_; rintro e w2 ⟨r, rfl, hB2, hT2⟩; have H2 := Lib.hid (And.intro hB2 hT2); clear hB2 hT2) | (go_at_call 26; refine (JO.out _ _ H2.out.2).mono ?_; rintro e w3 ⟨rfl, hB3⟩; have H3 := Lib.hid hB3; clear hB3))
        go_ret2
        exact ⟨rfl, hbw.out.trans ((H2.out.1.trans (H3.out.mono H2.out.1.size)).mono hbw.out.size)⟩
end Go.Proofs.YtpaffocniniakaaGreat
namespace Go.Proofs.YtpaffocniniakaaGreat
set_option linter.unusedVariables false
set_option linter.unusedSimpArgs false
open Go.RowKit

set_option maxRecDepth 100000 in
set_option maxHeartbeats 3200000 in
theorem dictTells_walk (s pat : Bs) (values : Bool) (hs : s.length ≤ 1000000000000000) (hp : pat.length ≤ 1000000000000000) (w : World) (hM : MaxIs w) :
    Calls Tryz.prog 3 #[.string ⟨s.toArray⟩, .string ⟨pat.toArray⟩, .bool values] w fun e w' => e = .returned (.bool true) ∧ Below w.heap.size w w' := by
  have AW : Hid (∀ W, Below w.heap.size w W → Calls Tryz.prog 5 #[] W fun e w' => e = .returned (.bool true) ∧ Below w.heap.size w w') := fun W hB => (awake_any W (hM.below hB hM.pos)).mono fun e w' ⟨h1, h2⟩ => ⟨h1, hB.trans (h2.mono hB.size)⟩
  have hB1 : Below w.heap.size w (w.alloc (.cells #[.string ⟨s.toArray⟩, .string ⟨pat.toArray⟩] 9)) := (Below.refl _ _).alloc (Nat.le_refl _) _
  have LG : Hid (Calls Tryz.prog 4 #[.slice (some ⟨w.heap.size, 0, none⟩) 2 2] (w.alloc (.cells #[.string ⟨s.toArray⟩, .string ⟨pat.toArray⟩] 9)) fun e w' => e = .returned (.bool (decide (1500 < longS [s, pat]))) ∧ Below w.heap.size w w') :=
    (Long_any [s, pat] _ _ (by simp [longS]; omega) (txt_new w [s, pat] (by show 2 ≤ maxLen; decide))).mono fun e w' ⟨h1, h2⟩ => ⟨h1, h2 ▸ hB1⟩
  have hls : longS [s, pat] = s.length + pat.length + 2 := by simp only [longS]; omega
  by_cases hL : 1500 < longS [s, pat]
  · rw [decide_eq_true hL] at LG
    clear hL hls hs hp hM hB1
    go_enter Tryz.func3, Tryz.ntmps3
    go_wp2_with (first | (go_at_call 4; refine LG.out.mono ?_; rintro e w1 ⟨rfl, hB1⟩; have H := Lib.hid hB1; clear hB1) | (go_at_call 5; refine (AW.out _ H.out).mono ?_; rintro e w2 ⟨rfl, hB2⟩; have H2 := Lib.hid hB2; clear hB2))
    go_ret
    exact ⟨rfl, H2.out⟩
  · rw [decide_eq_false hL] at LG
    by_cases h100 : 100 < pat.length
    · have t6 : decide ((100 : Int) < (pat.length : Int)) = true := by rw [decide_eq_true_eq]; omega
      clear hL hls hs hp hM hB1
      go_enter Tryz.func3, Tryz.ntmps3
      go_wp2_with (first | (go_at_call 4; refine LG.out.mono ?_; rintro e w1 ⟨rfl, hB1⟩; have H := Lib.hid hB1; clear hB1) | (go_at_call 5; refine (AW.out _ H.out).mono ?_; rintro e w2 ⟨rfl, hB2⟩; have H2 := Lib.hid hB2; clear hB2))
      go_ret
      exact ⟨rfl, H2.out⟩
    · have t6 : decide ((100 : Int) < (pat.length : Int)) = false := by rw [decide_eq_false_iff_not]; omega
      have h1 : s.length ≤ 19999 := by omega
      have h2 : pat.length ≤ 1000000 := by omega
      have up : ∀ {W W' : World}, Below w.heap.size w W → Below W.heap.size W W' → Below w.heap.size w W' := fun a b => a.trans (b.mono a.size)
      have CA : Hid (∀ W, Below w.heap.size w W → Calls Tryz.prog 6 #[.string ⟨s.toArray⟩] W fun e w' => e = .returned (.tuple #[.string ⟨(canonC s).1.toArray⟩, .int .i64 (canonC s).2]) ∧ Below w.heap.size w w') := fun W h => (Canonical_any s h1 W (hM.below h hM.pos)).mono fun e w' ⟨q1, q2⟩ => ⟨q1, up h q2⟩
      have RC : Hid (∀ W, Below w.heap.size w W → Calls Tryz.prog 7 #[.string ⟨s.toArray⟩] W fun e w' => e = .returned (.tuple #[.string ⟨(canonC s).1.toArray⟩, .int .i64 (canonC s).2]) ∧ Below w.heap.size w w') := fun W h => (rCanonical_any s h1 W).mono fun e w' ⟨q1, q2⟩ => ⟨q1, up h q2⟩
      have SI : Hid (∀ W, Below w.heap.size w W → Calls Tryz.prog 8 #[.string ⟨s.toArray⟩] W fun e w' => e = .returned (.tuple #[.int .i64 (sizeC s).1, .int .i64 (sizeC s).2]) ∧ Below w.heap.size w w') := fun W h => (Size_any s h1 W).mono fun e w' ⟨q1, q2⟩ => ⟨q1, up h q2⟩
      have RSI : Hid (∀ W, Below w.heap.size w W → Calls Tryz.prog 9 #[.string ⟨s.toArray⟩] W fun e w' => e = .returned (.tuple #[.int .i64 (sizeC s).1, .int .i64 (sizeC s).2]) ∧ Below w.heap.size w w') := fun W h => (rSize_any s h1 W).mono fun e w' ⟨q1, q2⟩ => ⟨q1, up h q2⟩
      have VA : Hid (∀ W, Below w.heap.size w W → Calls Tryz.prog 10 #[.string ⟨s.toArray⟩] W fun e w' => e = .returned (.bool (readC s).isSome) ∧ Below w.heap.size w w') := fun W h => (Valid_any s h1 W).mono fun e w' ⟨q1, q2⟩ => ⟨q1, up h q2⟩
      have RV : Hid (∀ W, Below w.heap.size w W → Calls Tryz.prog 11 #[.string ⟨s.toArray⟩] W fun e w' => e = .returned (.bool (readC s).isSome) ∧ Below w.heap.size w w') := fun W h => (rValid_any s h1 W).mono fun e w' ⟨q1, q2⟩ => ⟨q1, up h q2⟩
      obtain ⟨pl, hpl⟩ : ∃ pl : List Bs × Int, pl = match readC s with | none => ([], 11) | some ps => (flatP ps, 0) := ⟨_, rfl⟩
      have rp : ∀ {W w' : World} {r : Value} {err : Int}, RPrs W s r err w' → err = pl.2 ∧ TxtRow w' r pl.1 ∧ Below W.heap.size W w' := fun {W w' r err} h => by
        obtain ⟨hb, h⟩ := h
        rw [hpl]
        rcases h with ⟨hn, rfl, rfl⟩ | ⟨ps, hn, rfl, ho⟩
        · rw [hn]; exact ⟨rfl, TxtRow.nil _, hb⟩
        · rw [hn]; exact ⟨rfl, TxtRow.of_owns ho, hb⟩
      have PA : Hid (∀ W, Below w.heap.size w W → Calls Tryz.prog 12 #[.string ⟨s.toArray⟩] W fun e w' => ∃ v, e = .returned (.tuple #[v, .int .i64 pl.2]) ∧ TxtRow w' v pl.1 ∧ Below W.heap.size W w' ∧ Below w.heap.size w w') := fun W h => (Pairs_any s h1 W).mono fun e w' ⟨r, err, he, hr⟩ => by
        obtain ⟨rfl, q1, q2⟩ := rp hr
        exact ⟨r, he, q1, q2, up h q2⟩
      have RP : Hid (∀ W, Below w.heap.size w W → Calls Tryz.prog 13 #[.string ⟨s.toArray⟩] W fun e w' => ∃ v, e = .returned (.tuple #[v, .int .i64 pl.2]) ∧ TxtRow w' v pl.1 ∧ Below W.heap.size W w' ∧ Below w.heap.size w w') := fun W h => (rPairs_any s h1 W).mono fun e w' ⟨r, err, he, hr⟩ => by
        obtain ⟨rfl, q1, q2⟩ := rp hr
        exact ⟨r, he, q1, q2, up h q2⟩
      have KE : Hid (∀ W, Below w.heap.size w W → Calls Tryz.prog 15 #[.string ⟨s.toArray⟩, .string ⟨pat.toArray⟩] W fun e w' => ∃ v, e = .returned (.tuple #[v, .int .i64 (everyC 0 s pat).2]) ∧ TxtRow w' v (everyC 0 s pat).1 ∧ Below W.heap.size W w' ∧ Below w.heap.size w w') := fun W h => (Keys_any s pat h1 h2 W).mono fun e w' ⟨v, q1, q2, q3⟩ => ⟨v, q1, q2, q3, up h q3⟩
      have RK : Hid (∀ W, Below w.heap.size w W → Calls Tryz.prog 16 #[.string ⟨s.toArray⟩, .string ⟨pat.toArray⟩] W fun e w' => ∃ v, e = .returned (.tuple #[v, .int .i64 (everyC 0 s pat).2]) ∧ TxtRow w' v (everyC 0 s pat).1 ∧ Below W.heap.size W w' ∧ Below w.heap.size w w') := fun W h => (rKeys_any s pat h1 h2 W).mono fun e w' ⟨v, q1, q2, q3⟩ => ⟨v, q1, q2, q3, up h q3⟩
      have VE : Hid (∀ W, Below w.heap.size w W → Calls Tryz.prog 17 #[.string ⟨s.toArray⟩, .string ⟨pat.toArray⟩] W fun e w' => ∃ v, e = .returned (.tuple #[v, .int .i64 (everyC 1 s pat).2]) ∧ TxtRow w' v (everyC 1 s pat).1 ∧ Below W.heap.size W w' ∧ Below w.heap.size w w') := fun W h => (Values_any s pat h1 h2 W).mono fun e w' ⟨v, q1, q2, q3⟩ => ⟨v, q1, q2, q3, up h q3⟩
      have RVE : Hid (∀ W, Below w.heap.size w W → Calls Tryz.prog 18 #[.string ⟨s.toArray⟩, .string ⟨pat.toArray⟩] W fun e w' => ∃ v, e = .returned (.tuple #[v, .int .i64 (everyC 1 s pat).2]) ∧ TxtRow w' v (everyC 1 s pat).1 ∧ Below W.heap.size W w' ∧ Below w.heap.size w w') := fun W h => (rValues_any s pat h1 h2 W).mono fun e w' ⟨v, q1, q2, q3⟩ => ⟨v, q1, q2, q3, up h q3⟩
      have SA : Hid (∀ W va vb ss, Below w.heap.size w W → TxtRow W va ss → TxtRow W vb ss → Calls Tryz.prog 14 #[va, vb] W fun e w' => e = .returned (.bool true) ∧ Below w.heap.size w w') := fun W va vb ss h ha hb => (same_yes W ha hb).mono fun e w' ⟨q1, q2⟩ => ⟨q1, up h q2⟩
      have FI : Hid (∀ W, Below w.heap.size w W → Calls Tryz.prog 19 #[.string ⟨s.toArray⟩, .string ⟨pat.toArray⟩, .bool values] W fun e w' => e = .returned (.tuple #[.string ⟨(filC s pat values).1.toArray⟩, .int .i64 (filC s pat values).2]) ∧ Below w.heap.size w w') := fun W h => (Filter_any s pat values W (hM.below h hM.pos) h1 h2).mono fun e w' ⟨q1, q2⟩ => ⟨q1, up h q2⟩
      have RF : Hid (∀ W, Below w.heap.size w W → Calls Tryz.prog 20 #[.string ⟨s.toArray⟩, .string ⟨pat.toArray⟩, .bool values] W fun e w' => e = .returned (.tuple #[.string ⟨(filC s pat values).1.toArray⟩, .int .i64 (filC s pat values).2]) ∧ Below w.heap.size w w') := fun W h => (rFilter_any s pat values h1 h2 W).mono fun e w' ⟨q1, q2⟩ => ⟨q1, up h q2⟩
      have IV : Hid (∀ W, Below w.heap.size w W → Calls Tryz.prog 21 #[.string ⟨s.toArray⟩] W fun e w' => e = .returned (.tuple #[.string ⟨(invC s).1.toArray⟩, .int .i64 (invC s).2]) ∧ Below w.heap.size w w') := fun W h => (Invert_any s W (hM.below h hM.pos) h1).mono fun e w' ⟨q1, q2⟩ => ⟨q1, up h q2⟩
      have RI : Hid (∀ W, Below w.heap.size w W → Calls Tryz.prog 22 #[.string ⟨s.toArray⟩] W fun e w' => e = .returned (.tuple #[.string ⟨(invC s).1.toArray⟩, .int .i64 (invC s).2]) ∧ Below w.heap.size w w') := fun W h => (rInvert_any s h1 W).mono fun e w' ⟨q1, q2⟩ => ⟨q1, up h q2⟩
      generalize canonC s = q1 at *
      generalize sizeC s = q2 at *
      generalize (readC s).isSome = q3 at *
      generalize everyC 0 s pat = q4 at *
      generalize everyC 1 s pat = q5 at *
      generalize filC s pat values = q6 at *
      generalize invC s = q7 at *
      clear hL hls hs hp hM hB1 up h1 h2 rp hpl h100
      go_enter Tryz.func3, Tryz.ntmps3
      go_wp2_with (first | (go_at_call 4; refine LG.out.mono ?_; rintro e w1 ⟨rfl, hB1⟩; have H := Lib.hid hB1; clear hB1) | (go_at_call 6; refine (CA.out _ H.out).mono ?_; rintro e w2 ⟨rfl, hB⟩; have H := Lib.hid hB; clear hB) | (go_at_call 7; refine (RC.out _ H.out).mono ?_; rintro e w2 ⟨rfl, hB⟩; have H := Lib.hid hB; clear hB) | (go_at_call 8; refine (SI.out _ H.out).mono ?_; rintro e w2 ⟨rfl, hB⟩; have H := Lib.hid hB; clear hB) | (go_at_call 9; refine (RSI.out _ H.out).mono ?_; rintro e w2 ⟨rfl, hB⟩; have H := Lib.hid hB; clear hB) | (go_at_call 10; refine (VA.out _ H.out).mono ?_; rintro e w2 ⟨rfl, hB⟩; have H := Lib.hid hB; clear hB) | (go_at_call 11; refine (RV.out _ H.out).mono ?_; rintro e w2 ⟨rfl, hB⟩; have H := Lib.hid hB; clear hB) | (go_at_call 12; refine (PA.out _ H.out).mono ?_; rintro e w2 ⟨va, rfl, hT, _, hB⟩; have H := Lib.hid hB; have HA := Lib.hid hT; clear hB hT) | (go_at_call 13; refine (RP.out _ H.out).mono ?_; rintro e w2 ⟨vb, rfl, hT, hB0, hB⟩; have H := Lib.hid hB; have HT := Lib.hid (And.intro (HA.out.below hB0) hT); clear hB hT hB0 HA) | (go_at_call 15; refine (KE.out _ H.out).mono ?_; rintro e w2 ⟨va, rfl, hT, _, hB⟩; have H := Lib.hid hB; have HA := Lib.hid hT; clear hB hT) | (go_at_call 16; refine (RK.out _ H.out).mono ?_; rintro e w2 ⟨vb, rfl, hT, hB0, hB⟩; have H := Lib.hid hB; have HT := Lib.hid (And.intro (HA.out.below hB0) hT); clear hB hT hB0 HA) | (go_at_call 17; refine (VE.out _ H.out).mono ?_; rintro e w2 ⟨va, rfl, hT, _, hB⟩; have H := Lib.hid hB; have HA := Lib.hid hT; clear hB hT) | (go_at_call 18; refine (RVE.out _ H.out).mono ?_; rintro e w2 ⟨vb, rfl, hT, hB0, hB⟩; have H := Lib.hid hB; have HT := Lib.hid (And.intro (HA.out.below hB0) hT); clear hB hT hB0 HA) | (go_at_call 14; refine (SA.out _ _ _ _ H.out HT.out.1 HT.out.2).mono ?_; rintro e w2 ⟨rfl, hB⟩; have H := Lib.hid hB; clear hB HT) | (go_at_call 19; refine (FI.out _ H.out).mono ?_; rintro e w2 ⟨rfl, hB⟩; have H := Lib.hid hB; clear hB) | (go_at_call 20; refine (RF.out _ H.out).mono ?_; rintro e w2 ⟨rfl, hB⟩; have H := Lib.hid hB; clear hB) | (go_at_call 21; refine (IV.out _ H.out).mono ?_; rintro e w2 ⟨rfl, hB⟩; have H := Lib.hid hB; clear hB) | (go_at_call 22; refine (RI.out _ H.out).mono ?_; rintro e w2 ⟨rfl, hB⟩; have H := Lib.hid hB; clear hB) | (go_at_call 5; refine (AW.out _ H.out).mono ?_; rintro e w2 ⟨rfl, hB2⟩; have H := Lib.hid hB2; clear hB2))
      go_ret
      exact ⟨rfl, H.out⟩
end Go.Proofs.YtpaffocniniakaaGreat

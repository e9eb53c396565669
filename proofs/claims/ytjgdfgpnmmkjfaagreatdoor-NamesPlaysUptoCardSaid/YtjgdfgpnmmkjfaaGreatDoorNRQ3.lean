/- The reference's 'Candidates'. -/
import Derived.Test.YtjgdfgpnmmkjfaaGreatDoorNRQ
import Derived.Deep.RegionLaw
namespace Go.Proofs.YtjgdfgpnmmkjfaaGreatDoor
set_option linter.unusedVariables false
set_option linter.unusedSimpArgs false
open Go.RowKit Go.MapKept
/-- 'append(s, x...)' of texts, s the call's own, as a step of a region that draws its order. -/
theorem step_append_row {P : Program} {ops : Array Oper} {o : Oper} {a : Act} {w : World} {K : Act → World → Prop} {Q : Exit → Act → World → Prop} {E : Prop}
    (hg : o.guard = none) (s xo : Operand) (t : TypeId) (hop : o.op = Op.call { callee := Callee.builtin Builtin.append, args := #[s, xo], argTypes := #[t, t] })
    (base : Nat) (e : TypeId) (z : Value) (bytes : Nat) (ht : P.underlying t = some (.slice e)) (hi : (P.info? e).map (fun i => (i.zero, i.size, i.bytes)) = some (some z, 1, bytes)) (hz : z.cells.size = 1)
    (v : Value) (n : Nat) (xs : List Value) (hs : a.eval s = v) (hown : w.ownsRow base e 1 v n xs)
    (A : Option Addr) (m c : Nat) (ss : List Bs) (hx : a.eval xo = .slice A m c) (htx : TxtRow w (.slice A m c) ss)
    (hn : n + m ≤ maxLen) (hbytes : (n + m) * bytes ≤ 140737488355328) (hbase : base ≤ w.heap.size)
    (hK : ∀ v' w', w'.ownsRow base e 1 v' (n + m) (xs ++ ss.map sv) → Kp v.ownBlock.toList w w' → K (a.put o.dst v') w') :
    if Region.wanted o (yielded ops a.tmps) = true then Oper.wp P o a w K Q else E := by
  have hwn : Region.wanted o (yielded ops a.tmps) = true := by simp [Region.wanted, hg]
  rw [if_pos hwn]
  obtain ⟨i0, hi0, hz0, hz1, hz2⟩ := info_parts hi
  obtain ⟨o', c', e1, hlc, hcm, hcell⟩ := htx
  cases e1
  have hv : ∃ v' w', (Builtin.append_ #[t, t] o.type #[v, .slice A ss.length c]).run P w = .ok v' w' ∧ w'.ownsRow base e 1 v' (n + ss.length) (xs ++ ss.map sv) ∧ Kp v.ownBlock.toList w w' := by
    cases ss with
    | nil =>
      cases A with
      | none => exact ⟨v, w, run_append_none base t o.type e i0 ht hi0 hown c, by simpa using hown, Kp.refl _ _⟩
      | some ad =>
        obtain ⟨v', w', hr, h2, h3, _⟩ := run_append_own_at (P := P) w base t o.type e i0 z 1 bytes ht hi0 hz0 hz1 hz2 hz (by decide) v n xs hown ad 0 c [] rfl (by simp) (by simp) (by simpa using hn) (by simpa using hbytes) hbase
        exact ⟨v', w', hr, by simpa using h2, (Kp.refl _ w).grown h3 (fun b hb => by rw [hb]; simp)⟩
    | cons x0 r =>
      obtain ⟨b, off, rfl, _, _⟩ := hcell 0 (by simp)
      obtain ⟨v', w', hr, h2, h3, _⟩ := run_append_own_at (P := P) w base t o.type e i0 z 1 bytes ht hi0 hz0 hz1 hz2 hz (by decide) v n xs hown ⟨b, off, none⟩ (x0 :: r).length c ((x0 :: r).map sv) (by simp) (fun j u hj => by
        have hjl : j < (x0 :: r).length := by
          rcases Nat.lt_or_ge j (x0 :: r).length with h | h
          · exact h
          · rw [List.getElem?_eq_none (by simpa using h)] at hj; cases hj
        obtain ⟨b', off', e1, _, hc⟩ := hcell j hjl
        cases e1
        rw [List.getElem?_map, List.getElem?_eq_getElem hjl] at hj
        cases hj
        rw [show ((⟨b, off, none⟩ : Addr).add j) = ⟨b, off + j, none⟩ by unfold Addr.add; split <;> simp_all]; exact hc) (fun u hu => by obtain ⟨y, _, rfl⟩ := List.mem_map.1 hu; rfl) hn hbytes hbase
      exact ⟨v', w', hr, h2, (Kp.refl _ w).grown h3 (fun b hb => by rw [hb]; simp)⟩
  obtain ⟨v', w', hrun, h2, h3⟩ := hv
  unfold Oper.wp
  simp only [execOp, hop, resolve, invoke, builtin, hs, hx, hrun, Sem.run_bind, Sem.run_pure, Result.andThen_ok, List.map_toArray, List.map_cons, List.map_nil]
  exact hK v' w' h2 h3
theorem own_one (w : World) (B : Nat) (hB : B ≤ w.heap.size) (x : Value) (e : TypeId) (g : Nat) (hg : g = w.heap.size) : (w.alloc (.cells #[x] e)).ownsRow B e 1 (.slice (some ⟨g, 0, none⟩) 1 1) 1 [x] := by
  subst hg
  exact ⟨rfl, .inr ⟨w.heap.size, 1, #[x], rfl, hB, heap_alloc_new w _, Nat.le_refl _, by unfold maxLen; omega, rfl, rfl⟩⟩
section
variable {w : World} {B yb : Nat} {who : Own} {nd : Bs → Option Nat} {S : Bs → Option ND} {l : List Bs}
theorem below_kp {w W W5 : World} {g n c : Nat} (hk : Kp (Value.slice (some ⟨g, 0, none⟩) n c).ownBlock.toList W W5) (hb : Below w.heap.size w W) (hg : w.heap.size ≤ g) : Below w.heap.size w W5 := hb.trans (hk.below hb.size (fun d hd => by rw [← own_mem hd]; exact hg))
theorem below_kp2 {w W W5 : World} {D : List Nat} (hk : Kp D W W5) (hb : Below w.heap.size w W) (hD : ∀ d ∈ D, w.heap.size ≤ d) : Below w.heap.size w W5 := hb.trans (hk.below hb.size hD)
theorem txt_kp {W W5 : World} {D : List Nat} (hk : Kp D W W5) {g : Nat} {p : Bs} {t : TypeId} (h : W.heap[g]? = some (.cells #[.string ⟨p.toArray⟩] t (0, 0))) (hn : g ∉ D) : TxtRow W5 (.slice (some ⟨g, 0, none⟩) 1 1) [p] := txt_one ((hk.block g (Array.getElem?_eq_some_iff.1 h).1 hn).trans h)
set_option maxRecDepth 100000 in
set_option maxHeartbeats 3200000 in
theorem rCandidates_walk (h : RTr w B yb who nd S l) (hl : l.length ≤ 1000000) (space name : Bs) (h1 : space.length ≤ 20000) (h2 : name.length ≤ 20000) {b : Nat} {nn : ND} (hnd : nd (canonN rootN space) = some b) (hS : S (canonN rootN space) = some nn) (hL1 : nn.search.length ≤ 100000) (hL2 : ∀ p ∈ nn.search, p.length ≤ 100000) (hab : absN name = false) :
    Calls Tryz.prog 52 #[.pointer (some ⟨yb, 0, none⟩), .string ⟨space.toArray⟩, .string ⟨name.toArray⟩] w fun e w' => ∃ vo, e = .returned (.tuple #[vo, .int .i64 0]) ∧ TxtRow w' vo (candL S name ([canonN rootN space] ++ nn.search ++ [rootN])) ∧ Below w.heap.size w w' := by
  have A0 := rat_any h hl space (by omega)
  rw [hnd] at A0
  have A1 : Hid (Calls Tryz.prog 56 #[.pointer (some ⟨yb, 0, none⟩), .string ⟨space.toArray⟩] w fun e w' => e = .returned (.pointer (some ⟨b, 0, none⟩)) ∧ Below w.heap.size w w') := A0
  have AB : Hid (∀ W, Calls Tryz.prog 79 #[.string ⟨name.toArray⟩] W fun e w' => e = .returned (.bool false) ∧ W = w') := fun W => by have := rAbsolute_any name (by omega) W; rw [hab] at this; exact this
  obtain ⟨_, vs, ve, hcn, hrow, hrid, _⟩ := h.node _ _ _ hnd hS
  obtain ⟨so, sc, rfl⟩ := owns_slice hrow
  have hbl := (Array.getElem?_eq_some_iff.1 hcn).1
  have hTx : TxtRow w (.slice so nn.search.length sc) nn.search := TxtRow.of_owns hrow
  have hkl : (canonN rootN space).length ≤ 100000 := by have := canon_len3 space; omega
  generalize canonN rootN space = key at *
  generalize hLe : nn.search = L at *
  obtain ⟨sn, hsn⟩ : ∃ sn, L.length = sn := ⟨_, rfl⟩
  rw [hsn] at hcn hTx hL1
  obtain ⟨n, hn⟩ : ∃ n, 1 + sn + 1 = n := ⟨_, rfl⟩
  have HN0 := Lib.hid hn
  have hnb : n ≤ 200000 := by omega
  clear hn
  have HCN : Hid (∀ W, Below w.heap.size w W → W.cell? ⟨b, 0, none⟩ = some (.string ⟨key.toArray⟩) ∧ W.cell? ⟨b, 1, none⟩ = some (.slice so sn sc) ∧ TxtRow W (.slice so sn sc) L) := fun W hb => ⟨(vcells4 ((hb.block b hbl).trans hcn)).1, (vcells4 ((hb.block b hbl).trans hcn)).2.1, hTx.below hb⟩
  have AT2 : Hid (∀ W, Below w.heap.size w W → ∀ p : Bs, p.length ≤ 100000 → Calls Tryz.prog 56 #[.pointer (some ⟨yb, 0, none⟩), .string ⟨p.toArray⟩] W fun e w' => e = .returned (ptrN (nd (canonN rootN p))) ∧ Below W.heap.size W w') := fun W hb p hp => rat_any (h.low hb) hl p hp
  have CA : Hid (∀ W, ∀ p q : Bs, p.length ≤ 100000 → q.length ≤ 100000 → Calls Tryz.prog 58 #[.string ⟨p.toArray⟩, .string ⟨q.toArray⟩] W fun e w' => e = .returned (.string ⟨(canonN p q).toArray⟩) ∧ Below W.heap.size W w') := fun W p q hp hq => rCanonical_any p q hp hq W
  have HPS : Hid (∀ p ∈ [key] ++ L ++ [rootN], p.length ≤ 100000) := fun p hp => by
    simp only [List.mem_append, List.mem_singleton] at hp
    rcases hp with (rfl | hp) | rfl
    · exact hkl
    · exact hL2 p hp
    · decide
  have HMK : Hid (∀ W v, W.ownsRow w.heap.size 9 1 v n ([.string ⟨key.toArray⟩] ++ L.map sv ++ [rootN].map sv) → TxtRow W v ([key] ++ L ++ [rootN])) := fun W v ho => TxtRow.of_owns (base := w.heap.size) (by have e : ([key] ++ L ++ [rootN]).length = n := (by rw [← HN0.out]; simp; omega); rw [e]; simpa [sv] using ho)
  have hpn : ([key] ++ L ++ [rootN]).length = n := by rw [← HN0.out]; simp; omega
  have H := Lib.hid h
  have HN9 := Lib.hid (And.intro hpn hsn)
  generalize [key] ++ L ++ [rootN] = ps at *
  clear h
  clear A0 hrow hrid hcn hTx hLe hnd hS hL2 hpn hsn hl h1
  go_enter Tryz.func52, Tryz.ntmps52
  go_wp2_with (first | (go_at_call 56; refine A1.out.mono ?_; rintro e w2 ⟨rfl, hB⟩; have HB := Lib.hid hB; clear hB) | (go_at_call 79; refine (AB.out _).mono ?_; rintro e w3 ⟨rfl, rfl⟩))
  obtain ⟨e0, e1, e2⟩ := HCN.out w2 HB.out
  have f0 : ∀ o, (w2.alloc o).cell? ⟨b, 0, none⟩ = some (.string ⟨key.toArray⟩) := fun o => (HCN.out _ (HB.out.alloc HB.out.size o)).1
  have f1 : ∀ o, (w2.alloc o).cell? ⟨b, 1, none⟩ = some (.slice so sn sc) := fun o => (HCN.out _ (HB.out.alloc HB.out.size o)).2.1
  have f2 : ∀ o o', ((w2.alloc o).alloc o').cell? ⟨b, 1, none⟩ = some (.slice so sn sc) := fun o o' => (HCN.out _ ((HB.out.alloc HB.out.size o).alloc (HB.out.alloc HB.out.size o).size o')).2.1
  have HE := Lib.hid e2
  clear e2
  obtain ⟨Q, hQ1, hQ2⟩ : ∃ Q : Act → World → Prop, (∀ x27 x32 x33 po pc w', Hid (TxtRow w' (.slice po n pc) ps ∧ Below w.heap.size w w') → Q ⟨#[.pointer (some ⟨yb, 0, none⟩), .string ⟨space.toArray⟩, .string ⟨name.toArray⟩, undef, undef, undef, .slice none 0 0, .int .i64 0, .pointer (some ⟨b, 0, none⟩), .slice none 0 0, undef, undef, undef, .pointer (some ⟨yb, 0, none⟩), .string ⟨space.toArray⟩, .pointer (some ⟨b, 0, none⟩), .pointer (some ⟨b, 0, none⟩), .bool false, .string ⟨name.toArray⟩, .bool false, undef, undef, undef, .pointer (some ⟨b, 0, none⟩), .pointer (some ⟨b, 0, none⟩), .pointer (some ⟨b, 0, none⟩), .string ⟨key.toArray⟩, x27, .pointer (some ⟨b, 0, none⟩), .pointer (some ⟨b, 0, none⟩), .pointer (some ⟨b, 1, none⟩), .slice so sn sc, x32, x33, .slice po n pc, .int .i64 (n : Int), .int .i64 0, undef, undef, undef, undef, undef, undef, undef, undef, undef, undef, undef, undef, undef, undef, undef, undef, undef, undef, undef, undef, undef, undef], []⟩ w') ∧ ∀ a' w', Q a' w' → ∃ x27 x32 x33 po pc, a' = ⟨#[.pointer (some ⟨yb, 0, none⟩), .string ⟨space.toArray⟩, .string ⟨name.toArray⟩, undef, undef, undef, .slice none 0 0, .int .i64 0, .pointer (some ⟨b, 0, none⟩), .slice none 0 0, undef, undef, undef, .pointer (some ⟨yb, 0, none⟩), .string ⟨space.toArray⟩, .pointer (some ⟨b, 0, none⟩), .pointer (some ⟨b, 0, none⟩), .bool false, .string ⟨name.toArray⟩, .bool false, undef, undef, undef, .pointer (some ⟨b, 0, none⟩), .pointer (some ⟨b, 0, none⟩), .pointer (some ⟨b, 0, none⟩), .string ⟨key.toArray⟩, x27, .pointer (some ⟨b, 0, none⟩), .pointer (some ⟨b, 0, none⟩), .pointer (some ⟨b, 1, none⟩), .slice so sn sc, x32, x33, .slice po n pc, .int .i64 (n : Int), .int .i64 0, undef, undef, undef, undef, undef, undef, undef, undef, undef, undef, undef, undef, undef, undef, undef, undef, undef, undef, undef, undef, undef, undef], []⟩ ∧ Hid (TxtRow w' (.slice po n pc) ps ∧ Below w.heap.size w w') :=
    ⟨fun a' w' => ∃ x27 x32 x33 po pc, a' = ⟨#[.pointer (some ⟨yb, 0, none⟩), .string ⟨space.toArray⟩, .string ⟨name.toArray⟩, undef, undef, undef, .slice none 0 0, .int .i64 0, .pointer (some ⟨b, 0, none⟩), .slice none 0 0, undef, undef, undef, .pointer (some ⟨yb, 0, none⟩), .string ⟨space.toArray⟩, .pointer (some ⟨b, 0, none⟩), .pointer (some ⟨b, 0, none⟩), .bool false, .string ⟨name.toArray⟩, .bool false, undef, undef, undef, .pointer (some ⟨b, 0, none⟩), .pointer (some ⟨b, 0, none⟩), .pointer (some ⟨b, 0, none⟩), .string ⟨key.toArray⟩, x27, .pointer (some ⟨b, 0, none⟩), .pointer (some ⟨b, 0, none⟩), .pointer (some ⟨b, 1, none⟩), .slice so sn sc, x32, x33, .slice po n pc, .int .i64 (n : Int), .int .i64 0, undef, undef, undef, undef, undef, undef, undef, undef, undef, undef, undef, undef, undef, undef, undef, undef, undef, undef, undef, undef, undef, undef], []⟩ ∧ Hid (TxtRow w' (.slice po n pc) ps ∧ Below w.heap.size w w'), fun x27 x32 x33 po pc w' h => ⟨x27, x32, x33, po, pc, rfl, h⟩, fun _ _ h => h⟩
  have HQ1 := Lib.hid hQ1
  have HQ2 := Lib.hid hQ2
  clear hQ1 hQ2
  refine wp_mono (Q := Exit.then Q (fun _ _ _ => False)) ?_ (fun e a' w4 h => ?_)
  · go_region_law (first
      | (refine step_append_row rfl (.tmp 27) (.tmp 31) 27 rfl w.heap.size 9 (.string ⟨#[]⟩) 16 Tryz.underlying27 infoStr rfl (.slice (some ⟨w2.heap.size, 0, none⟩) 1 1) 1 [.string ⟨key.toArray⟩] (by simp [Act.eval, Act.put]) (by first | exact own_one w2.drew _ HB.out.size _ _ _ rfl | exact (own_one w2.drew _ HB.out.size _ _ _ rfl).alloc _) so sn sc L (by simp [Act.eval, Act.put]) (by first | exact HE.out.al _ | exact (HE.out.al _).al _) (by unfold maxLen; omega) (by omega) (by have := HB.out.size; simp; omega) ?_; intro v5 w5 ho5 hk5; have HB5 := Lib.hid (below_kp hk5 (by first | exact (HB.out.alloc HB.out.size _).drew | exact ((HB.out.alloc HB.out.size _).alloc (HB.out.alloc HB.out.size _).size _).drew) (by first | exact HB.out.size | exact Nat.le_succ_of_le HB.out.size)); (try (have hr5 := txt_kp (g := w2.heap.size + 1) (p := rootN) hk5 (by exact at_new _ _ _ (by simp)) (by simp [Value.ownBlock]))); clear hk5)
      | (refine step_append_row rfl (.tmp 27) (.tmp 31) 27 rfl w.heap.size 9 (.string ⟨#[]⟩) 16 Tryz.underlying27 infoStr rfl (.slice (some ⟨w2.heap.size + 1, 0, none⟩) 1 1) 1 [.string ⟨key.toArray⟩] (by simp [Act.eval, Act.put]) (by exact own_one (w2.drew.alloc _) _ (by have := HB.out.size; simp; omega) _ _ _ (by simp)) so sn sc L (by simp [Act.eval, Act.put]) (by exact (HE.out.al _).al _) (by unfold maxLen; omega) (by omega) (by have := HB.out.size; simp; omega) ?_; intro v5 w5 ho5 hk5; have HB5 := Lib.hid (below_kp hk5 (by first | exact (HB.out.alloc HB.out.size _).drew | exact ((HB.out.alloc HB.out.size _).alloc (HB.out.alloc HB.out.size _).size _).drew) (by first | exact HB.out.size | exact Nat.le_succ_of_le HB.out.size)); have hr5 := txt_kp (g := w2.heap.size) (p := rootN) hk5 (by exact at_old _ (at_new _ _ _ rfl)) (by simp [Value.ownBlock]); clear hk5)
      | (refine step_append_row rfl (.tmp 32) (.tmp 33) 27 rfl w.heap.size 9 (.string ⟨#[]⟩) 16 Tryz.underlying27 infoStr rfl v5 (1 + sn) ([.string ⟨key.toArray⟩] ++ L.map sv) (by simp [Act.eval, Act.put]) (by first | exact ho5 | exact ho5.alloc _) (some ⟨_, 0, none⟩) 1 1 [rootN] (by simp [Act.eval, Act.put]; rfl) (by first | exact hr5 | exact txt_one (p := rootN) (at_new _ _ _ rfl)) (by unfold maxLen; omega) (by omega) (by have := HB5.out.size; first | exact this | (simp; omega)) ?_; intro v6 w6 ho6 hk6; have HB6 := Lib.hid (below_kp2 hk6 (by first | exact HB5.out.drew | exact (HB5.out.alloc HB5.out.size _).drew | exact HB5.out | exact (HB5.out.alloc HB5.out.size _)) (fun d hd => (row_ids ho5 d (by simpa using hd)).1)); rw [HN0.out] at ho6; obtain ⟨po, pc, rfl⟩ := row_shape ho6; have HP : Hid (TxtRow w6 (.slice po n pc) ps ∧ Below w.heap.size w w6) := ⟨HMK.out w6 _ ho6, HB6.out⟩; clear ho6 hk6))
    all_goals exact HQ1.out _ _ _ _ _ _ HP
  obtain rfl : e = .normal := by cases e <;> first | rfl | exact h.elim
  obtain ⟨x27, x32, x33, po, pc, rfl, HP⟩ := HQ2.out _ _ h
  clear h
  dsimp only
  go_wp2_with fail
  go_loopw [36, 9] (fun q o wr => ∃ k : Nat, k ≤ n ∧ q = .int .i64 (k : Int) ∧ (∃ oo oc, o = .slice oo (candL S name (ps.take k)).length oc ∧ wr.ownsRow w4.heap.size 9 1 (.slice oo (candL S name (ps.take k)).length oc) (candL S name (ps.take k)).length ((candL S name (ps.take k)).map sv)) ∧ Below w4.heap.size w4 wr) (fun q _ _ => n - (intOf q).toNat)
  case atStart => exact ⟨0, Nat.zero_le _, rfl, ⟨none, 0, rfl, rfl, .inl ⟨rfl, rfl⟩⟩, Below.refl _ _⟩
  case round =>
    obtain ⟨k, hk, rfl, ⟨oo, oc, rfl, hown⟩, hB⟩ := hrel
    have HBW : Hid (Below w.heap.size w wr) := HP.out.2.trans (hB.mono HP.out.2.size)
    have hlen := cand_len S name (ps.take k) []
    have hle2 : (candL S name (ps.take k)).length ≤ 1000000 := by
      have : (ps.take k).length ≤ k := by simp; omega
      unfold candL
      simp only [List.length_nil, Nat.zero_add] at hlen
      omega
    clear hlen
    by_cases hlt : k < n
    · have hkl : k < ps.length := by have := HN9.out.1; omega
      obtain ⟨hpc0, hpc1, hpc2, hcell⟩ := HP.out.1.at_
      obtain ⟨gb, off, rfl, hgl, hc0⟩ := hcell k hkl
      have hc1 : wr.cell? ⟨gb, off + k, none⟩ = some (sv ps[k]) := (hB.cell (p := ⟨gb, off + k, none⟩) hgl).trans hc0
      have hpl2 := HPS.out ps[k] (List.getElem_mem _)
      have hA := fun W hb => AT2.out W hb ps[k] hpl2
      have hCA := fun W => CA.out W ps[k] name hpl2 (by omega)
      have hstep := candL_snoc S name ps k hkl
      have HSO := Lib.hid (H.out.same (canonN rootN ps[k]))
      generalize ps[k] = p at *
      have hcx : wr.cell? ⟨gb, off + k, none⟩ = some (.string ⟨p.toArray⟩) := hc1
      have t0 : decide ((k : Int) < (n : Int)) = true := by rw [decide_eq_true_eq]; omega
      have i1 : k < n := hlt
      obtain ⟨out, hout⟩ : ∃ out, candL S name (ps.take k) = out := ⟨_, rfl⟩
      rw [hout] at hown hstep hle2 ⊢
      obtain ⟨on, hon⟩ : ∃ on, out.length = on := ⟨_, rfl⟩
      rw [hon] at hown hle2 ⊢
      obtain ⟨c, hc⟩ : ∃ c, canonN p name = c := ⟨_, rfl⟩
      rw [hc] at hCA
      have HCA := Lib.hid hCA
      have HK := Lib.hid (And.intro hlt hon)
      have HST := Lib.hid (And.intro hstep hc)
      have HO := Lib.hid hown
      have HBK := Lib.hid hB
      have hw1 : IntKind.i64.wrap ((k : Int) + 1) = (k : Int) + 1 := IntWalk.i64_in _ (by omega)
      cases hx : nd (canonN rootN p) with
      | none =>
        rw [hx] at hA
        have HA : Hid (∀ W, Below w.heap.size w W → Calls Tryz.prog 56 #[.pointer (some ⟨yb, 0, none⟩), .string ⟨p.toArray⟩] W fun e w' => e = .returned (.pointer none) ∧ Below W.heap.size W w') := hA
        have HX := Lib.hid hx
        have HSTEP : Hid (candL S name (ps.take (k + 1)) = out) := by
          show _ = _
          rw [hstep]; unfold candStep
          have h2 := HSO.out; rw [hx] at h2; rw [← h2]; rfl
        clear hA hCA hown hB hc0 hc1 hstep hx hlt hk hkl hout hon hc hcell hpc0 hpc1 hpc2 hpl2
        go_wp2_with (first | (go_at_call 58; refine (HCA.out _).mono ?_; rintro e w5 ⟨rfl, hB5⟩; have HB5 : Hid (Below wr.heap.size wr w5) := hB5; clear hB5) | (go_at_call 56; refine (HA.out _ (by exact HBW.out.trans (HB5.out.mono HBW.out.size))).mono ?_; rintro e w6 ⟨rfl, hB6⟩; have HB6 : Hid (Below wr.heap.size wr w6) := HB5.out.trans (hB6.mono HB5.out.size); have HT6 : Hid (w6.ownsRow w4.heap.size 9 1 (.slice oo on oc) on (out.map sv) ∧ TxtRow w6 (.slice oo on oc) out) := ⟨ownsRow_kp HO.out (kp_of_below HB6.out) (by simp), by have := ownsRow_kp HO.out (kp_of_below HB6.out) (by simp); rw [← HK.out.2] at this ⊢; exact TxtRow.of_owns this⟩; clear hB6))
        exact ⟨⟨k + 1, by have := HK.out; omega, by go_num, ⟨oo, oc, by rw [HSTEP.out, HK.out.2], by rw [HSTEP.out, HK.out.2]; exact HT6.out.1⟩, HBK.out.trans (HB6.out.mono HBK.out.size)⟩, by have := HK.out; simp [intOf]; omega⟩
      | some bb =>
        rw [hx] at hA
        have HA : Hid (∀ W, Below w.heap.size w W → Calls Tryz.prog 56 #[.pointer (some ⟨yb, 0, none⟩), .string ⟨p.toArray⟩] W fun e w' => e = .returned (.pointer (some ⟨bb, 0, none⟩)) ∧ Below W.heap.size W w') := hA
        have HX := Lib.hid hx
        have hS2 : (S (canonN rootN p)).isSome = true := by have h2 := HSO.out; rw [hx] at h2; rw [← h2]; rfl
        have hCO : ∀ W, TxtRow W (.slice oo on oc) out → Calls Tryz.prog 61 #[.slice oo on oc, .string ⟨c.toArray⟩] W fun e w' => e = .returned (.bool (hasB out c)) ∧ W = w' := fun W ht => rhas_any ht (by rw [← hon] at hle2; exact hle2) c
        cases hh : hasB out c with
        | true =>
          rw [hh] at hCO
          have HCO := Lib.hid hCO
          have HSTEP : Hid (candL S name (ps.take (k + 1)) = out) := by
            show _ = _
            rw [hstep]; unfold candStep; rw [hc, hh, hS2]; rfl
          clear hA hCA hown hB hc0 hc1 hstep hx hlt hk hkl hout hon hc hcell hpc0 hpc1 hpc2 hpl2 hh hCO hS2
          go_wp2_with (first | (go_at_call 58; refine (HCA.out _).mono ?_; rintro e w5 ⟨rfl, hB5⟩; have HB5 : Hid (Below wr.heap.size wr w5) := hB5; clear hB5) | (go_at_call 56; refine (HA.out _ (by exact HBW.out.trans (HB5.out.mono HBW.out.size))).mono ?_; rintro e w6 ⟨rfl, hB6⟩; have HB6 : Hid (Below wr.heap.size wr w6) := HB5.out.trans (hB6.mono HB5.out.size); have HT6 : Hid (w6.ownsRow w4.heap.size 9 1 (.slice oo on oc) on (out.map sv) ∧ TxtRow w6 (.slice oo on oc) out) := ⟨ownsRow_kp HO.out (kp_of_below HB6.out) (by simp), by have := ownsRow_kp HO.out (kp_of_below HB6.out) (by simp); rw [← HK.out.2] at this ⊢; exact TxtRow.of_owns this⟩; clear hB6) | (go_at_call 61; refine (HCO.out _ HT6.out.2).mono ?_; rintro e w7 ⟨rfl, rfl⟩))
          exact ⟨⟨k + 1, by have := HK.out; omega, by go_num, ⟨oo, oc, by rw [HSTEP.out, HK.out.2], by rw [HSTEP.out, HK.out.2]; exact HT6.out.1⟩, HBK.out.trans (HB6.out.mono HBK.out.size)⟩, by have := HK.out; simp [intOf]; omega⟩
        | false =>
          rw [hh] at hCO
          have HCO := Lib.hid hCO
          have HSTEP : Hid (candL S name (ps.take (k + 1)) = out ++ [c]) := by
            show _ = _
            rw [hstep]; unfold candStep; rw [hc, hh, hS2]; rfl
          clear hA hCA hown hB hc0 hc1 hstep hx hlt hk hkl hout hon hc hcell hpc0 hpc1 hpc2 hpl2 hh hCO hS2
          go_wp2_with (first | (go_at_call 58; refine (HCA.out _).mono ?_; rintro e w5 ⟨rfl, hB5⟩; have HB5 : Hid (Below wr.heap.size wr w5) := hB5; clear hB5) | (go_at_call 56; refine (HA.out _ (by exact HBW.out.trans (HB5.out.mono HBW.out.size))).mono ?_; rintro e w6 ⟨rfl, hB6⟩; have HB6 : Hid (Below wr.heap.size wr w6) := HB5.out.trans (hB6.mono HB5.out.size); have HT6 : Hid (w6.ownsRow w4.heap.size 9 1 (.slice oo on oc) on (out.map sv) ∧ TxtRow w6 (.slice oo on oc) out) := ⟨ownsRow_kp HO.out (kp_of_below HB6.out) (by simp), by have := ownsRow_kp HO.out (kp_of_below HB6.out) (by simp); rw [← HK.out.2] at this ⊢; exact TxtRow.of_owns this⟩; clear hB6) | (go_at_call 61; refine (HCO.out _ HT6.out.2).mono ?_; rintro e w7 ⟨rfl, rfl⟩) | (at_builtin; go_loud (refine wpList_push rfl (.tmp 53) (.tmp 55) 27 rfl w4.heap.size 9 (.string ⟨#[]⟩) 16 Tryz.underlying27 infoStr rfl (.slice oo on oc) on _ rfl HT6.out.1 (.string ⟨c.toArray⟩) _ rfl rfl (by unfold maxLen; omega) (by omega) (Nat.le_trans HBK.out.size HB6.out.size) ?_); intro g1 c1 w8 hg1 hown8 hb8 hloc; have H8 : Hid (w8.ownsRow w4.heap.size 9 1 (.slice (some ⟨g1, 0, none⟩) (on + 1) c1) (on + 1) (out.map sv ++ [.string ⟨c.toArray⟩]) ∧ Below w4.heap.size w6 w8) := ⟨hown8, hb8⟩; clear hg1 hown8 hb8 hloc))
          exact ⟨⟨k + 1, by have := HK.out; omega, by go_num, ⟨some ⟨g1, 0, none⟩, c1, by rw [HSTEP.out, List.length_append, HK.out.2]; rfl, by rw [HSTEP.out, List.length_append, HK.out.2, List.map_append]; exact H8.out.1⟩, (HBK.out.trans (HB6.out.mono HBK.out.size)).trans H8.out.2⟩, by have := HK.out; simp [intOf]; omega⟩
    · have hkn : k = n := by omega
      subst hkn
      have t0 : decide ((k : Int) < (k : Int)) = false := by rw [decide_eq_false_iff_not]; omega
      have hnn := HN9.out.1
      rw [List.take_of_length_le (by omega)] at hown ⊢
      obtain ⟨on, hon⟩ : ∃ on, (candL S name ps).length = on := ⟨_, rfl⟩
      rw [hon] at hown ⊢
      have HE := Lib.hid (And.intro hown hon)
      clear hown hB hk hlt hnn hon hle2
      go_wp2_with fail
      go_ret2
      exact ⟨_, rfl, TxtRow.of_owns (base := w4.heap.size) (by rw [HE.out.2]; exact HE.out.1), HBW.out⟩
theorem rCandidates_any (h : RTr w B yb who nd S l) (hl : l.length ≤ 1000000) (space name : Bs) (h1 : space.length ≤ 20000) (h2 : name.length ≤ 20000) (hL : ∀ n, S (canonN rootN space) = some n → n.search.length ≤ 100000 ∧ ∀ p ∈ n.search, p.length ≤ 100000) :
    Calls Tryz.prog 52 #[.pointer (some ⟨yb, 0, none⟩), .string ⟨space.toArray⟩, .string ⟨name.toArray⟩] w fun e w' => ∃ vo, e = .returned (.tuple #[vo, .int .i64 (candS S space name).1]) ∧ TxtRow w' vo (candS S space name).2 ∧ Below w.heap.size w w' := by
  have A0 := rat_any h hl space (by omega)
  unfold candS
  cases hS : S (canonN rootN space) with
  | none =>
    rw [h.nd_none hS] at A0
    have A1 : Hid (Calls Tryz.prog 56 #[.pointer (some ⟨yb, 0, none⟩), .string ⟨space.toArray⟩] w fun e w' => e = .returned (.pointer none) ∧ Below w.heap.size w w') := A0
    clear h A0 hS hL h1 h2
    go_enter Tryz.func52, Tryz.ntmps52
    go_wp2_with (go_at_call 56; refine A1.out.mono ?_; rintro e w2 ⟨rfl, hB⟩; have HB := Lib.hid hB; clear hB)
    go_ret2
    exact ⟨_, rfl, TxtRow.nil _, HB.out⟩
  | some nn =>
    obtain ⟨b, hnd⟩ := h.nd_some hS
    obtain ⟨hL1, hL2⟩ := hL nn hS
    cases hab : absN name with
    | false => exact rCandidates_walk h hl space name h1 h2 hnd hS hL1 hL2 hab
    | true =>
      rw [hnd] at A0
      have A1 : Hid (Calls Tryz.prog 56 #[.pointer (some ⟨yb, 0, none⟩), .string ⟨space.toArray⟩] w fun e w' => e = .returned (.pointer (some ⟨b, 0, none⟩)) ∧ Below w.heap.size w w') := A0
      have AB : Hid (∀ W, Calls Tryz.prog 79 #[.string ⟨name.toArray⟩] W fun e w' => e = .returned (.bool true) ∧ W = w') := fun W => by have := rAbsolute_any name (by omega) W; rw [hab] at this; exact this
      have CX : Hid (∀ W, Calls Tryz.prog 58 #[.string ⟨#[58, 58]⟩, .string ⟨name.toArray⟩] W fun e w' => e = .returned (.string ⟨(canonN rootN name).toArray⟩) ∧ Below W.heap.size W w') := fun W => rCanonical_any rootN name (by decide) (by omega) W
      show Calls _ _ _ _ fun e w' => ∃ vo, e = .returned (.tuple #[vo, .int .i64 0]) ∧ TxtRow w' vo [canonN rootN name] ∧ Below w.heap.size w w'
      generalize canonN rootN name = q at *
      clear h A0 hnd hL h1 h2 hS hL1 hL2 hab
      go_enter Tryz.func52, Tryz.ntmps52
      go_wp2_with (first | (go_at_call 56; refine A1.out.mono ?_; rintro e w2 ⟨rfl, hB⟩; have HB := Lib.hid hB; clear hB) | (go_at_call 79; refine (AB.out _).mono ?_; rintro e w3 ⟨rfl, rfl⟩) | (go_at_call 58; refine (CX.out _).mono ?_; rintro e w4 ⟨rfl, hB⟩; have HB4 := Lib.hid (HB.out.trans (hB.mono HB.out.size)); clear hB))
      go_ret2
      exact ⟨_, rfl, txt_one (at_new _ _ _ rfl), HB4.out.alloc HB4.out.size _⟩
end
end Go.Proofs.YtjgdfgpnmmkjfaaGreatDoor

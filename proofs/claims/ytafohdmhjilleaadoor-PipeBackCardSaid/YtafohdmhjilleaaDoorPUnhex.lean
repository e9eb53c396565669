/- unhex: of what hex made. -/
import Derived.Test.YtafohdmhjilleaaDoorPHex
namespace Go.Proofs.YtafohdmhjilleaaDoor
set_option linter.unusedVariables false
set_option linter.unusedSimpArgs false
open Go.RowKit Go.Shelf

abbrev hexF (waits : Bs) : Array Value := #[.func (.func 58) #[] #[], .func (.func 59) #[] #[], .string ⟨waits.toArray⟩]
abbrev rotF : Array Value := #[.func (.func 56) #[] #[], .func (.func 57) #[] #[], .string ⟨#[]⟩]
theorem hexS_at (l : Bs) : ∀ j (h : j < l.length), ∃ (h1 : 2 * j < (hexS l).length) (h2 : 2 * j + 1 < (hexS l).length), (hexS l)[2 * j] = hexD (l[j].toNat / 16) ∧ (hexS l)[2 * j + 1] = hexD (l[j].toNat % 16) := by
  induction l with
  | nil => intro j h; simp at h
  | cons c r ih =>
    intro j h
    have e : hexS (c :: r) = hexD (c.toNat / 16) :: hexD (c.toNat % 16) :: hexS r := by simp [hexS, hexB]
    have hl := hexS_len (c :: r)
    simp at hl h
    refine ⟨by omega, by omega, ?_⟩
    cases j with
    | zero => simp [e]
    | succ j =>
      obtain ⟨h1, h2, h3, h4⟩ := ih j (by omega)
      refine ⟨?_, ?_⟩
      · have : 2 * (j + 1) = 2 * j + 1 + 1 := by omega
        simp only [e, this, List.getElem_cons_succ, h3]
      · have : 2 * (j + 1) + 1 = 2 * j + 1 + 1 + 1 := by omega
        simp only [e, this, List.getElem_cons_succ, h4]
/-- What holds at the loop's head of unhex. -/
def UnR (w : World) (fb : Nat) (l : Bs) (v16 : Value) (wr : World) : Prop := ∃ (j i : Nat) (waits : Bs), j ≤ l.length ∧ v16 = .int .i64 (i : Int) ∧ ((i = 2 * j ∧ waits = []) ∨ ∃ h : j < l.length, i = 2 * j + 1 ∧ waits = [hexD (l[j].toNat / 16)]) ∧
  wr.heap[fb]? = some (.cells (hexF waits) 62 (0, 0)) ∧ IsB w.heap.size w.heap.size (Lib.byteCells (l.take j)) wr ∧ Kp [fb] w wr
theorem filter_set {W : World} {fb : Nat} {a : Bs} (h : W.heap[fb]? = some (.cells (hexF a) 62 (0, 0))) (b : Bs) : (W.setCell ⟨fb, 2, none⟩ (.string ⟨b.toArray⟩)).heap[fb]? = some (.cells (hexF b) 62 (0, 0)) := by
  simp only [World.setCell, Array.getElem?_modify, h]
  simp
theorem filter_cell {W : World} {fb : Nat} {a : Bs} (h : W.heap[fb]? = some (.cells (hexF a) 62 (0, 0))) : W.cell? ⟨fb, 2, none⟩ = some (.string ⟨a.toArray⟩) ∧ W.frozen? ⟨fb, 2, none⟩ = false := by
  refine ⟨?_, ?_⟩
  · simp only [World.cell?, h]; rfl
  · simp [World.frozen?, h]
theorem filter_lt {W : World} {fb : Nat} {c : Array Value} {t : TypeId} (h : W.heap[fb]? = some (.cells c t (0, 0))) : fb < W.heap.size := (Array.getElem?_eq_some_iff.1 h).1

theorem below_but {w W : World} {fb : Nat} {o : Obj} (h : w.heap[fb]? = some o) (h' : W.heap[fb]? = some o) (k : Kp [fb] w W) : Below w.heap.size w W :=
  ⟨k.os, k.tape, k.output, k.size, fun j hj => by
    by_cases e : j = fb
    · subst e; exact h'.trans h.symm
    · exact k.block j hj (by simpa using e)⟩
theorem un_keep {W W' : World} {B fb : Nat} {bs : List Value} {c : Array Value} (h : W.heap[fb]? = some (.cells c 62 (0, 0))) (hB : IsB B B bs W) (hk : Lib.OthersKept 5 (some B) W W') : W'.heap[fb]? = some (.cells c 62 (0, 0)) := by
  obtain ⟨cB, hcB⟩ := hB.block
  refine hk fb _ h (fun e => ?_) (fun c' fz e => ?_)
  · cases e; rw [hcB] at h; cases h
  · cases e
theorem kp_then {w W W' : World} {D : List Nat} (k : Kp D w W) (h : Below w.heap.size W W') : Kp D w W' :=
  ⟨h.os.trans k.os, h.tape.trans k.tape, h.output.trans k.output, Nat.le_trans k.size h.size, fun j hj hn => (h.block j hj).trans (k.block j hj hn)⟩
theorem or_digits : ∀ a b : Fin 16, bits BinOp.or IntKind.u8 ((a.val : Int) * 16) (b.val : Int) = (16 * a.val + b.val : Nat) := by decide
set_option maxRecDepth 100000 in
set_option maxHeartbeats 1600000 in
theorem unhex_any (l : Bs) (hl : l.length ≤ 100000) (fb : Nat) (w : World) (hf : w.heap[fb]? = some (.cells (hexF []) 62 (0, 0))) :
    Calls Tryd.prog 58 #[.pointer (some ⟨fb, 0, none⟩), .string ⟨(hexS l).toArray⟩] w fun e w' => e = .returned (.tuple #[.string ⟨l.toArray⟩, .bool true]) ∧ Below w.heap.size w w' := by
  have hfb := filter_lt hf
  have hlen := hexS_len l
  obtain ⟨s, hs⟩ : ∃ s, hexS l = s := ⟨_, rfl⟩
  rw [hs] at hlen ⊢
  have HS := Lib.hid hs
  have HF := Lib.hid hf
  have HLen := Lib.hid hlen
  have hsl : s.length ≤ 200000 := by omega
  clear hs hf hlen
  go_enter Tryd.func58, Tryd.ntmps58
  go_wp2
  go_loopw [16] (fun v16 wr => UnR w fb l v16 wr) (fun v16 _ => s.length - (intOf v16).toNat)
  case atStart => exact ⟨0, 0, [], by omega, rfl, .inl ⟨rfl, rfl⟩, by rw [Below.heap_alloc _ _ _ hfb]; exact HF.out, IsB.new w, (Kp.refl [fb] w).alloc _⟩
  case round =>
    obtain ⟨j, i, waits, hj, rfl, hcase, hb, hB, hK⟩ := hrel
    obtain ⟨hc, hfz⟩ := filter_cell hb
    have H := Lib.hid (And.intro hb (And.intro hB hK))
    clear hb hB hK
    rcases hcase with ⟨hi, rfl⟩ | ⟨hjl, hi, rfl⟩
    · by_cases hjl : j < l.length
      · obtain ⟨g1, g2, g3, g4⟩ := hexS_at l j hjl
        have hlt : i < s.length := by have := HLen.out; omega
        obtain ⟨d, hd⟩ : ∃ d, d = hexD (l[j].toNat / 16) := ⟨_, rfl⟩
        have hsi : s[i] = d := by
          have : ∀ (s' : Bs) (i' : Nat) (h : i' < s'.length), s' = hexS l → i' = 2 * j → s'[i'] = hexD (l[j].toNat / 16) := by
            intro s' i' h e1 e2; subst e1; subst e2; exact g3
          rw [hd]; exact this s i hlt HS.out.symm hi
        have hsd : (s.drop i).take 1 = [d] := by rw [List.drop_eq_getElem_cons hlt, hsi]; rfl
        have HD := Lib.hid (fun W => digit_hex (l[j].toNat / 16) (by have := byte_lt l[j]; omega) d hd W)
        have HE := Lib.hid hd
        have HI := Lib.hid hi
        have i1 : (i : Int) < (s.length : Int) := by omega
        have i2 : (i : Int) + 1 ≤ (s.length : Int) := by omega
        clear hd hi g1 g2 g3 g4
        go_wp2_with (go_at_call 71; refine (HD.out _).mono ?_; rintro e w1 ⟨rfl, rfl⟩)
        go_roundw
        case rel => exact ⟨j, i + 1, [d], hj, by go_num, .inr ⟨hjl, by have := HI.out; omega, by rw [HE.out]⟩, filter_set H.out.1 [d], H.out.2.1.set _ H.out.1 (by decide) (by decide), H.out.2.2.setCell fb 2 _ (.inl (by simp))⟩
        case measure => simp [intOf]; omega
      · obtain rfl : j = l.length := by omega
        have i1 : i = s.length := by have := HLen.out; omega
        subst i1
        have hBB := H.out.2.1
        rw [List.take_length] at hBB
        have HBB := Lib.hid hBB
        have hle : w.heap.size ≤ wr.heap.size := H.out.2.2.size
        clear hBB hi
        go_wp2_with (go_at_call 40; refine (Tryd.Builder_String_any_k w.heap.size w.heap.size l _ HBB.out hle).mono ?_; rintro e w1 ⟨rfl, _, hB1, _⟩; skip)
        go_ret2
        exact ⟨rfl, (below_but HF.out H.out.1 H.out.2.2).trans hB1⟩
    · obtain ⟨g1, g2, g3, g4⟩ := hexS_at l j hjl
      have hlt : i < s.length := by have := HLen.out; omega
      obtain ⟨d0, hd0⟩ : ∃ d, d = hexD (l[j].toNat / 16) := ⟨_, rfl⟩
      obtain ⟨d, hd⟩ : ∃ d, d = hexD (l[j].toNat % 16) := ⟨_, rfl⟩
      rw [← hd0] at hc
      have hsi : s[i] = d := by
        have : ∀ (s' : Bs) (i' : Nat) (h : i' < s'.length), s' = hexS l → i' = 2 * j + 1 → s'[i'] = hexD (l[j].toNat % 16) := by
          intro s' i' h e1 e2; subst e1; subst e2; exact g4
        rw [hd]; exact this s i hlt HS.out.symm hi
      obtain ⟨hi', hhi⟩ : ∃ h, h = l[j].toNat / 16 := ⟨_, rfl⟩
      obtain ⟨lo', hlo⟩ : ∃ h, h = l[j].toNat % 16 := ⟨_, rfl⟩
      have hi16 : hi' < 16 := by have := byte_lt l[j]; omega
      have lo16 : lo' < 16 := by omega
      have hC : 16 * hi' + lo' = l[j].toNat := by omega
      have hbits := or_digits ⟨hi', hi16⟩ ⟨lo', lo16⟩
      simp only [hC] at hbits
      have hne : j < l.length := hjl
      have hlj : (l.take j).length = j := by simp; omega
      have hsn : l.take j ++ [l[j]] = l.take (j + 1) := (List.take_succ_eq_append_getElem hjl).symm
      have HSN := Lib.hid hsn
      clear hC hsn
      rw [← hhi] at hd0
      rw [← hlo] at hd
      have HD0 := Lib.hid (fun W => digit_hex hi' hi16 d0 hd0 W)
      have HD := Lib.hid (fun W => digit_hex lo' lo16 d hd W)
      have HI := Lib.hid hi
      have HHI := Lib.hid hhi
      have i1 : (i : Int) < (s.length : Int) := by omega
      clear hd hi g1 g2 g3 g4 hd0 hhi hlo
      go_wp2_with (first | (go_at_call 71; first | ((with_reducible refine (HD.out _).mono ?_); rintro e w1 ⟨rfl, rfl⟩) | ((with_reducible refine (HD0.out _).mono ?_); rintro e w1 ⟨rfl, rfl⟩)) | (go_at_call 72; refine (byte_put H.out.2.1 _ (by omega)).mono ?_; rintro e w2 ⟨rfl, hb2, hB2, hk2⟩; have h2 := un_keep H.out.1 H.out.2.1 hk2; have hK2 := kp_then H.out.2.2 hB2; obtain ⟨hc2, hf2⟩ := filter_cell h2; have H2 := Lib.hid (And.intro h2 (And.intro hb2 hK2)); clear hb2 hB2 hk2 h2 hK2 hc hfz))
      have hb3 := H2.out.2.1
      rw [HSN.out] at hb3
      go_roundw
      case rel => exact ⟨j + 1, i + 1, [], by omega, by go_num, .inl ⟨by have := HI.out; omega, rfl⟩, filter_set H2.out.1 [], hb3.set _ H2.out.1 (by decide) (by decide), H2.out.2.2.setCell fb 2 _ (.inl (by simp))⟩
      case measure => simp [intOf]; omega
end Go.Proofs.YtafohdmhjilleaaDoor

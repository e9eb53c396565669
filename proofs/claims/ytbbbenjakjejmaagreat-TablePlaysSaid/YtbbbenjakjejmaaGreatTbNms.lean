/- The names of a table as the keys of a map in memory. -/
import Derived.Test.YtbbbenjakjejmaaGreatTbActs
import Derived.Maps.Range
import Derived.Sort.KeysCollected
namespace Go.Proofs.YtbbbenjakjejmaaGreat
set_option linter.unusedVariables false
set_option linter.unusedSimpArgs false
open Go.RowKit Go.MapKept Go.WideMaps
/-- The names of a kind, in some order. -/
structure Nms (S : TS) (hid : Bool) (ks : List Bs) : Prop where
  nodup : ks.Nodup
  mem : ∀ k, k ∈ ks ↔ (S.nm hid k).isSome = true
theorem nodup_le : ∀ {l m : List Bs}, l.Nodup → (∀ x ∈ l, x ∈ m) → l.length ≤ m.length
  | [], m, _, _ => Nat.zero_le _
  | x :: l, m, h, hs => by
    rw [List.nodup_cons] at h
    have hx := hs x (by simp)
    have h1 := nodup_le (l := l) (m := m.erase x) h.2 (fun y hy => (List.mem_erase_of_ne (fun (e : y = x) => h.1 (by rw [← e]; exact hy))).2 (hs y (by simp [hy])))
    rw [List.length_erase_of_mem hx] at h1
    have := List.length_pos_of_mem hx
    simp only [List.length_cons]
    omega
def nameOf (S : TS) (n : Nat) : Bs := match S.cm n with | some c => c.name | none => []
theorem Nms.le {S : TS} {hid : Bool} {ks : List Bs} (hW : WF S) (h : Nms S hid ks) : ks.length ≤ S.cnt := by
  have := nodup_le (m := S.keys.map (nameOf S)) h.nodup (fun k hk => by
    have hk := (h.mem k).1 hk
    cases hn : S.nm hid k with
    | none => rw [hn] at hk; cases hk
    | some n =>
      obtain ⟨c, hc, hcn, _⟩ := (hW.names _ _ _).1 hn
      exact List.mem_map.2 ⟨n, (hW.mem_keys n).2 (by rw [hc]; rfl), by unfold nameOf; rw [hc]; exact hcn⟩)
  simpa [TS.cnt] using this
theorem Nms.len {S : TS} {hid : Bool} {ks : List Bs} (hW : WF S) (h : Nms S hid ks) : ∀ k ∈ ks, k.length ≤ 100000 := fun k hk => by
  have hk := (h.mem k).1 hk
  cases hn : S.nm hid k with
  | none => rw [hn] at hk; cases hk
  | some n =>
    obtain ⟨c, hc, rfl, _⟩ := (hW.names _ _ _).1 hn
    exact hW.len n c hc
/-- How a value of the map reads: it does not matter. -/
def Rc : Value → Option (DataW Unit × List MemPlace) := fun _ => some (.nil, [])
def decS : Value → Bs
  | .string b => b.data.toList
  | _ => []
theorem decS_sv (b : Bs) : decS (sv b) = b := by simp [decS, sv]
section
variable {w : World} {B tb mn mh mk : Nat} {who : Own} {cb : Nat → Nat} {S : TS}
theorem Tb.ownsNames (h : Tb w B tb mn mh mk who cb S) (hW : WF S) (hl : S.last ≤ 900000) (hid : Bool) :
    ∃ (D0 : DataW Unit) (ks : List Bs), w.ownsMap Tryz.prog 9 Rc (kindB mn mh hid) 1000000 D0 ∧ (strKeys D0).Perm ks ∧ Nms S hid ks := by
  obtain ⟨es, clock, hb, hs, hkeys, hg⟩ := h.map hid
  have hdec : ∀ e ∈ es.toList, e.key = sv (decS e.key) := fun e he => by
    obtain ⟨k, l, hk, _⟩ := hkeys e he
    rw [hk, decS_sv]
  have hN : Nms S hid (es.toList.map fun e => decS e.key) := by
    constructor
    · refine List.pairwise_map.2 ((((stamped_iff es clock).1 hs).2.2).imp_of_mem fun {a b} ha hb' hne e => hne ?_)
      rw [hdec a ha, hdec b hb', e]
    · intro k
      rw [List.mem_map]
      constructor
      · rintro ⟨e, he, rfl⟩
        have hv : (S.nm hid (decS e.key)).map (fun n => ptrC (cb n)) = some e.val := (hg (decS e.key) e.val).2 ⟨e, he, hdec e he, rfl⟩
        cases hn : S.nm hid (decS e.key) with
        | none => rw [hn] at hv; cases hv
        | some n => rfl
      · intro hk
        cases hn : S.nm hid k with
        | none => rw [hn] at hk; cases hk
        | some n =>
          obtain ⟨e, he, hke, _⟩ := (hg k (ptrC (cb n))).1 (by show (S.nm hid k).map _ = _; rw [hn]; rfl)
          exact ⟨e, he, by rw [hke, decS_sv]⟩
  have hsz : es.size ≤ 1000000 := by
    have h1 := hN.le hW
    have h2 := S.cnt_le
    rw [List.length_map, Array.length_toList] at h1
    omega
  have hrd : ∀ e ∈ es.toList, WideElems.rd Tryz.prog 9 Rc e = some (.string (decS e.key), .nil) := fun e he => by
    have hk := hdec e he
    have hlen := hN.len hW (decS e.key) (List.mem_map.2 ⟨e, he, rfl⟩)
    have := WideElems.rd_mk (P := Tryz.prog) (k := 9) (R := Rc) (key := e.key) (val := e.val) (born := e.born) (kl := .string (decS e.key)) (yv := (.nil, [])) (by rw [hk, decS_sv]; exact skey (by unfold maxLen; omega)) rfl
    exact this
  refine ⟨_, _, ⟨es, clock, hb, ⟨by unfold maxLen; omega, hs, fun x hx => ⟨_, hrd x hx⟩⟩, hsz, rfl⟩, ?_, hN⟩
  show (((es.toList.map (WideElems.rg Tryz.prog 9 Rc)).foldr DataW.insert []).map fun p => strOf p.1).Perm _
  refine ((WideShapes.sorted_perm _).map _).trans ?_
  rw [List.map_map]
  refine List.Perm.of_eq (List.map_congr_left fun e he => ?_)
  simp only [Function.comp_apply]
  rw [WideElems.rg_of (hrd e he)]
  rfl
end
end Go.Proofs.YtbbbenjakjejmaaGreat

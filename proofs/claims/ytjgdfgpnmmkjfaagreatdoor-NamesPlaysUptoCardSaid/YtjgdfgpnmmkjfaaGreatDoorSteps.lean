/- 'steps' of package text: the parts of a pattern, as they lie in memory. -/
import Derived.Test.YtjgdfgpnmmkjfaaGreatDoorIn
import Derived.Test.YtjgdfgpnmmkjfaaGreatDoorHeap
import Derived.Test.YtjgdfgpnmmkjfaaGreatDoorGlobP
import Derived.Test.YtjgdfgpnmmkjfaaGreatDoorShelf
import Derived.Deep.LoopGhost
namespace Go.Proofs.YtjgdfgpnmmkjfaaGreatDoor
set_option linter.unusedVariables false
set_option linter.unusedSimpArgs false
open Go.RowKit

/-- How a part lies in memory: its two cells a, b. -/
def PartAt (w : World) (a b : Value) : Part → Prop
  | none => a = .bool true ∧ b = .nilFunc
  | some p => a = .bool false ∧
    ((b = .func (.func 119) #[] #[] ∧ p = fun _ => true) ∨
     (∃ bs bf set fold, b = .func (.func 121) #[] #[.pointer (some ⟨bs, 0, none⟩), .pointer (some ⟨bf, 0, none⟩)] ∧ w.heap[bs]? = some (.cells #[.string ⟨List.toArray set⟩] 9 (0, 0)) ∧ w.heap[bf]? = some (.cells #[.bool fold] 4 (0, 0)) ∧ set.length ≤ 1000000 ∧ p = fun x => inC set x fold) ∨
     (∃ bc bf fold, ∃ c : UInt8, b = .func (.func 123) #[] #[.pointer (some ⟨bc, 0, none⟩), .pointer (some ⟨bf, 0, none⟩)] ∧ w.heap[bc]? = some (.cells #[.int .u8 c.toNat] 5 (0, 0)) ∧ w.heap[bf]? = some (.cells #[.bool fold] 4 (0, 0)) ∧ p = lit fold c))

def PartsAt (w : World) : List Value → List Part → Prop
  | [], [] => True
  | a :: b :: r, s :: t => PartAt w a b s ∧ PartsAt w r t
  | _, _ => False

/-- Whatever is no row of parts lies as it lay. -/
abbrev PKept (w w' : World) : Prop := Lib.OthersKept 121 none w w'

theorem PartAt.kept {w w' : World} {a b : Value} {s : Part} (h : PartAt w a b s) (hk : PKept w w') : PartAt w' a b s := by
  cases s with
  | none => exact h
  | some p =>
    refine ⟨h.1, ?_⟩
    rcases h.2 with h2 | ⟨bs, bf, set, fold, h1, h2, h3, h4, h5⟩ | ⟨bc, bf, fold, c, h1, h2, h3, h4⟩
    · exact .inl h2
    · exact .inr (.inl ⟨bs, bf, set, fold, h1, hk _ _ h2 (by simp) (by intro c fz e; simp at e), hk _ _ h3 (by simp) (by intro c fz e; simp at e), h4, h5⟩)
    · exact .inr (.inr ⟨bc, bf, fold, c, h1, hk _ _ h2 (by simp) (by intro c fz e; simp at e), hk _ _ h3 (by simp) (by intro c fz e; simp at e), h4⟩)

theorem PartsAt.kept {w w' : World} (hk : PKept w w') : ∀ {cs : List Value} {l : List Part}, PartsAt w cs l → PartsAt w' cs l
  | [], [], _ => trivial
  | a :: b :: r, s :: t, h => ⟨h.1.kept hk, PartsAt.kept hk h.2⟩
  | [_], [], h => h.elim
  | [_], _ :: _, h => h.elim
  | [], _ :: _, h => h.elim
  | _ :: _ :: _, [], h => h.elim

theorem PartsAt.snoc {w : World} {a b : Value} {s : Part} : ∀ {cs : List Value} {l : List Part}, PartsAt w cs l → PartAt w a b s → PartsAt w (cs ++ [a, b]) (l ++ [s])
  | [], [], _, h => ⟨h, trivial⟩
  | _ :: _ :: _, _ :: _, h, h' => ⟨h.1, PartsAt.snoc h.2 h'⟩
  | [_], [], h, _ => h.elim
  | [_], _ :: _, h, _ => h.elim
  | [], _ :: _, h, _ => h.elim
  | _ :: _ :: _, [], h, _ => h.elim

theorem PartsAt.get {w : World} : ∀ {cs : List Value} {l : List Part} (_ : PartsAt w cs l) (i : Nat) (hi : i < l.length), ∃ a b, cs[2 * i]? = some a ∧ cs[2 * i + 1]? = some b ∧ PartAt w a b l[i]
  | a :: b :: r, s :: t, h, 0, _ => ⟨a, b, rfl, rfl, h.1⟩
  | a :: b :: r, s :: t, h, i + 1, hi => by
    obtain ⟨x, y, h1, h2, h3⟩ := PartsAt.get h.2 i (by simpa using hi)
    exact ⟨x, y, by simpa [Nat.mul_add] using h1, by simpa [Nat.mul_add] using h2, h3⟩
  | [_], _ :: _, h, _, _ => h.elim
  | [], _ :: _, h, _, _ => h.elim
  | _, [], _, _, hi => by simp at hi

theorem step_rel {B : Nat} {w w1 : World} {v a b : Value} {cs : List Value} {done : List Part} {s : Part} (hown1 : w1.ownsRow B 121 2 v (done.length + 1) (cs ++ [a, b])) (hpa : PartsAt w cs done) (hk : PKept w w1) (hp : PartAt w1 a b s) :
    w1.ownsRow B 121 2 v (done ++ [s]).length (cs ++ [a, b]) ∧ PartsAt w1 (cs ++ [a, b]) (done ++ [s]) := by
  rw [List.length_append]
  exact ⟨hown1, (hpa.kept hk).snoc hp⟩
theorem done_step {all rest : Option (List Part)} {done : List Part} {s : Part} (h : all = (rest.map (s :: ·)).map (done ++ ·)) : Hid (all = rest.map (done ++ [s] ++ ·)) := by
  show _ = _
  rw [h, Option.map_map]
  congr 1
  funext x; simp
theorem kept_box {w w1 : World} (hk : PKept w w1) {b : Nat} {v : Value} {t : TypeId} (h : w.heap[b]? = some (.cells #[v] t (0, 0))) (ht : t ≠ 121) : w1.heap[b]? = some (.cells #[v] t (0, 0)) :=
  hk _ _ h (by simp) (by intro c fz e; simp at e; exact ht e.2.1)

def StepsPost (inr : Option (List Part)) (w : World) (e : Ending) (w' : World) : Prop :=
  Below w.heap.size w w' ∧ match inr with
  | none => e = .returned (.tuple #[.slice none 0 0, .bool false])
  | some l => ∃ v cs, e = .returned (.tuple #[v, .bool true]) ∧ w'.ownsRow w.heap.size 121 2 v l.length cs ∧ PartsAt w' cs l

theorem Tryz.infoStep : (Tryz.prog.info? 121).map (fun i => (i.zero, i.size, i.bytes)) = some (some (.agg #[.bool false, .nilFunc]), 2, 16) := by kernel_rfl

set_option maxRecDepth 100000 in
set_option maxHeartbeats 1600000 in
theorem steps_any (p : Bs) (fold : Bool) (hp : p.length ≤ 1000000) (w : World) :
    Calls Tryz.prog 99 #[.string ⟨p.toArray⟩, .bool fold] w (StepsPost (stepsA inC fold p) w) := by
  go_enter Tryz.func99, Tryz.ntmps99
  go_wp2_with fail
  go_loopw [6, 7] (fun v6 v7 wr => ∃ (i : Nat) (done : List Part) (cs : List Value), i ≤ p.length ∧ v7 = .int .i64 i ∧ wr.ownsRow w.heap.size 121 2 v6 done.length cs ∧ PartsAt wr cs done ∧ Below w.heap.size w wr ∧
      wr.heap[w.heap.size]? = some (.cells #[.bool fold] 4 (0, 0)) ∧ Hid (stepsA inC fold p = (stepsA inC fold (p.drop i)).map (done ++ ·)) ∧ done.length ≤ i)
    (fun _ v7 _ => p.length - (intOf v7).toNat)
  case atStart => exact ⟨0, [], [], Nat.zero_le _, rfl, World.ownsRow_nil _ _ _ _, trivial, (Below.refl _ _).alloc (Nat.le_refl _) _, heap_alloc_new w _, by simp [Hid], by simp⟩
  case round =>
    obtain ⟨i, done, cs, hi, rfl, hown, hpa, hb, hbf, HS, hdl⟩ := hrel
    have hsz := hb.size
    by_cases hlt : i < p.length
    · have h255 := byte_lt p[i]
      have hdrop := List.drop_eq_getElem_cons hlt
      by_cases h42 : p[i] = 42
      · have t42 : ((p[i].toNat : Int) == 42) = true := by rw [h42]; rfl
        have HD := done_step (show stepsA inC fold p = ((stepsA inC fold (p.drop (i + 1))).map (none :: ·)).map (done ++ ·) from by have h := HS.out; rw [hdrop, h42, stepsA_star] at h; exact h)
        clear HS hdrop
        go_wp2_with (at_builtin; refine wpList_push2 rfl _ _ 115 rfl w.heap.size 121 (.agg #[.bool false, .nilFunc]) 16 Tryz.underlying115 Tryz.infoStep rfl _ done.length cs rfl (hown.alloc _) (.bool true) .nilFunc (wr.heap.size + 1) (by simp) rfl rfl rfl (by unfold maxLen; omega) (by omega) (by simp; omega) ?_; intro g cap w1 hg hown1 hb1 hk1)
        have hkk : PKept wr w1 := ((Lib.OthersKept.refl _ _ wr).alloc _).trans hk1
        have hrel := step_rel hown1 hpa hkk (s := none) ⟨rfl, rfl⟩
        go_roundw
        case rel => exact ⟨i + 1, done ++ [none], _, by omega, by go_num, hrel.1, hrel.2, (hb.alloc hsz _).trans hb1, kept_box hkk hbf (by decide), HD, by simp; omega⟩
        case measure => simp [intOf]; omega
      · have t42 : ((p[i].toNat : Int) == 42) = false := by rw [beq_eq_false_iff_ne]; intro h; exact h42 (byte_inj (by show _ = 42; omega))
        by_cases h63 : p[i] = 63
        · have t63 : ((p[i].toNat : Int) == 63) = true := by rw [h63]; rfl
          have HD := done_step (show stepsA inC fold p = ((stepsA inC fold (p.drop (i + 1))).map (some (fun _ => true) :: ·)).map (done ++ ·) from by have h := HS.out; rw [hdrop, h63, stepsA_any] at h; exact h)
          clear HS hdrop
          go_wp2_with (at_builtin; refine wpList_push2 rfl _ _ 115 rfl w.heap.size 121 (.agg #[.bool false, .nilFunc]) 16 Tryz.underlying115 Tryz.infoStep rfl _ done.length cs rfl (hown.alloc _) (.bool false) (.func (.func 119) #[] #[]) (wr.heap.size + 1) (by simp) rfl rfl rfl (by unfold maxLen; omega) (by omega) (by simp; omega) ?_; intro g cap w1 hg hown1 hb1 hk1)
          have hkk : PKept wr w1 := ((Lib.OthersKept.refl _ _ wr).alloc _).trans hk1
          have hrel := step_rel hown1 hpa hkk (s := some (fun _ => true)) ⟨rfl, .inl ⟨rfl, rfl⟩⟩
          go_roundw
          case rel => exact ⟨i + 1, done ++ [some (fun _ => true)], _, by omega, by go_num, hrel.1, hrel.2, (hb.alloc hsz _).trans hb1, kept_box hkk hbf (by decide), HD, by simp; omega⟩
          case measure => simp [intOf]; omega
        · have t63 : ((p[i].toNat : Int) == 63) = false := by rw [beq_eq_false_iff_ne]; intro h; exact h63 (byte_inj (by show _ = 63; omega))
          by_cases h91 : p[i] = 91
          · have t91 : ((p[i].toNat : Int) == 91) = true := by rw [h91]; rfl
            have hib := Tryz.strings_IndexByte ⟨(p.drop i).toArray⟩ 93
            rw [show (⟨(p.drop i).toArray⟩ : ByteArray).data.toList = p[i] :: p.drop (i + 1) from hdrop] at hib
            rw [show Lib.indexByte (p[i] :: p.drop (i + 1)) (93 : Int).toNat.toUInt8 = (if Lib.indexByte (p.drop (i + 1)) 93 == -1 then -1 else Lib.indexByte (p.drop (i + 1)) 93 + 1) from by rw [h91]; rfl] at hib
            by_cases hneg : Lib.indexByte (p.drop (i + 1)) 93 < 0
            · have hr : stepsA inC fold p = none := by
                have h := HS.out
                rw [hdrop, h91, stepsA_bad hneg] at h
                exact h
              have HR := Lib.hid hr
              have hib1 : ∀ W, Calls Tryz.prog 120 #[.string ⟨(p.drop i).toArray⟩, .int .u8 93] W fun e w' => e = .returned (.int .i64 (-1)) ∧ W = w' := fun W => (hib W).mono fun e w' h => ⟨by rw [h.1, if_pos (by have := Lib.indexByte_ge (p.drop (i + 1)) 93; simp; omega)], h.2.symm⟩
              have HIB := Lib.hid hib1
              clear hib hib1 hr HS hdrop
              go_wp2_with (go_at_call 120; refine (HIB.out _).mono ?_; rintro e w' ⟨rfl, rfl⟩)
              go_ret2
              exact ⟨(hb.alloc hsz _), by rw [HR.out]; rfl⟩
            · obtain ⟨k, hk⟩ : ∃ k : Nat, Lib.indexByte (p.drop (i + 1)) 93 = k := ⟨(Lib.indexByte (p.drop (i + 1)) 93).toNat, by omega⟩
              have hkl : i + 1 + k < p.length := by
                have := (Lib.indexByte_some hk).1
                have := (List.getElem?_eq_some_iff.1 this).1
                simp at this; omega
              have HD := done_step (show stepsA inC fold p = ((stepsA inC fold (p.drop (i + k + 2))).map (some (fun x => inC ((p.drop (i + 1)).take k) x fold) :: ·)).map (done ++ ·) from by have h := HS.out; rw [hdrop, h91, stepsA_set hneg, hk, List.drop_drop] at h; rw [show i + k + 2 = i + 1 + (k + 1) from by omega]; exact h)
              have hib1 : ∀ W, Calls Tryz.prog 120 #[.string ⟨(p.drop i).toArray⟩, .int .u8 93] W fun e w' => e = .returned (.int .i64 ((k : Int) + 1)) ∧ W = w' := fun W => (hib W).mono fun e w' h => ⟨by rw [h.1, if_neg (by rw [hk]; simp), hk], h.2.symm⟩
              have HIB := Lib.hid hib1
              clear hib hib1 HS hdrop hk hneg
              go_wp2_with (first | (go_at_call 120; refine (HIB.out _).mono ?_; rintro e w' ⟨rfl, rfl⟩) | (at_builtin; refine wpList_push2 rfl _ _ 115 rfl w.heap.size 121 (.agg #[.bool false, .nilFunc]) 16 Tryz.underlying115 Tryz.infoStep rfl _ done.length cs rfl ((hown.alloc _).alloc _) (.bool false) (.func (.func 121) #[] #[.pointer (some ⟨wr.heap.size + 1, 0, none⟩), .pointer (some ⟨w.heap.size, 0, none⟩)]) (wr.heap.size + 1 + 1) (by simp) rfl rfl rfl (by unfold maxLen; omega) (by omega) (by simp; omega) ?_; intro g cap w1 hg hown1 hb1 hk1))
              have hkk : PKept wr w1 := (((Lib.OthersKept.refl _ _ wr).alloc _).alloc _).trans hk1
              have hnew := heap_alloc_new (wr.alloc (.cells #[.int .u8 91] 5)) (.cells #[.string ⟨((p.drop (i + 1)).take k).toArray⟩] 9)
              rw [World.size_alloc] at hnew
              have hrel := step_rel hown1 hpa hkk (s := some (fun x => inC ((p.drop (i + 1)).take k) x fold)) ⟨rfl, .inr (.inl ⟨_, _, (p.drop (i + 1)).take k, fold, rfl, kept_box hk1 (by rw [show i + (k + 1) - (i + 1) = k from by omega]; exact hnew) (by decide), kept_box hkk hbf (by decide), by simp; omega, rfl⟩)⟩
              go_roundw
              case rel => exact ⟨i + k + 2, done ++ [some (fun x => inC ((p.drop (i + 1)).take k) x fold)], _, by omega, by go_num, hrel.1, hrel.2, ((hb.alloc hsz _).alloc (by simp; omega) _).trans hb1, kept_box hkk hbf (by decide), HD, by simp; omega⟩
              case measure => simp [intOf]; omega
          · have t91 : ((p[i].toNat : Int) == 91) = false := by rw [beq_eq_false_iff_ne]; intro h; exact h91 (byte_inj (by show _ = 91; omega))
            by_cases h92 : p[i] = 92
            · have t92 : ((p[i].toNat : Int) == 92) = true := by rw [h92]; rfl
              by_cases hlast : i + 1 < p.length
              · have hd2 := List.drop_eq_getElem_cons hlast
                have HD := done_step (show stepsA inC fold p = ((stepsA inC fold (p.drop (i + 2))).map (some (lit fold p[i + 1]) :: ·)).map (done ++ ·) from by have h := HS.out; rw [hdrop, hd2, h92, stepsA_esc] at h; exact h)
                have hl2 : (i : Int) + 1 < (p.length : Int) := by omega
                clear HS hdrop hd2
                go_wp2_with (at_builtin; refine wpList_push2 rfl _ _ 115 rfl w.heap.size 121 (.agg #[.bool false, .nilFunc]) 16 Tryz.underlying115 Tryz.infoStep rfl _ done.length cs rfl (hown.alloc _) (.bool false) (.func (.func 123) #[] #[.pointer (some ⟨wr.heap.size, 0, none⟩), .pointer (some ⟨w.heap.size, 0, none⟩)]) (wr.heap.size + 1) (by simp) rfl rfl rfl (by unfold maxLen; omega) (by omega) (by simp; omega) ?_; intro g cap w1 hg hown1 hb1 hk1)
                have hkk : PKept wr w1 := ((Lib.OthersKept.refl _ _ wr).alloc _).trans hk1
                have hrel := step_rel hown1 hpa hkk (s := some (lit fold p[i + 1])) ⟨rfl, .inr (.inr ⟨_, _, fold, p[i + 1], rfl, kept_box hk1 (heap_alloc_new wr _) (by decide), kept_box hkk hbf (by decide), rfl⟩)⟩
                go_roundw
                case rel => exact ⟨i + 2, done ++ [some (lit fold p[i + 1])], _, by omega, by go_num, hrel.1, hrel.2, (hb.alloc hsz _).trans hb1, kept_box hkk hbf (by decide), HD, by simp; omega⟩
                case measure => simp [intOf]; omega
              · have HD := done_step (show stepsA inC fold p = ((stepsA inC fold (p.drop (i + 1))).map (some (lit fold p[i]) :: ·)).map (done ++ ·) from by have h := HS.out; rw [hdrop, stepsA_lit h42 h63 h91 (by simp; omega)] at h; exact h)
                clear HS hdrop
                go_wp2_with (at_builtin; refine wpList_push2 rfl _ _ 115 rfl w.heap.size 121 (.agg #[.bool false, .nilFunc]) 16 Tryz.underlying115 Tryz.infoStep rfl _ done.length cs rfl (hown.alloc _) (.bool false) (.func (.func 123) #[] #[.pointer (some ⟨wr.heap.size, 0, none⟩), .pointer (some ⟨w.heap.size, 0, none⟩)]) (wr.heap.size + 1) (by simp) rfl rfl rfl (by unfold maxLen; omega) (by omega) (by simp; omega) ?_; intro g cap w1 hg hown1 hb1 hk1)
                have hkk : PKept wr w1 := ((Lib.OthersKept.refl _ _ wr).alloc _).trans hk1
                have hrel := step_rel hown1 hpa hkk (s := some (lit fold p[i])) ⟨rfl, .inr (.inr ⟨_, _, fold, p[i], rfl, kept_box hk1 (by rw [h92]; exact heap_alloc_new wr _) (by decide), kept_box hkk hbf (by decide), rfl⟩)⟩
                go_roundw
                case rel => exact ⟨i + 1, done ++ [some (lit fold p[i])], _, by omega, by go_num, hrel.1, hrel.2, (hb.alloc hsz _).trans hb1, kept_box hkk hbf (by decide), HD, by simp; omega⟩
                case measure => simp [intOf]; omega
            · have t92 : ((p[i].toNat : Int) == 92) = false := by rw [beq_eq_false_iff_ne]; intro h; exact h92 (byte_inj (by show _ = 92; omega))
              have HD := done_step (show stepsA inC fold p = ((stepsA inC fold (p.drop (i + 1))).map (some (lit fold p[i]) :: ·)).map (done ++ ·) from by have h := HS.out; rw [hdrop, stepsA_lit h42 h63 h91 (by simp [h92])] at h; exact h)
              clear HS hdrop
              go_wp2_with (at_builtin; refine wpList_push2 rfl _ _ 115 rfl w.heap.size 121 (.agg #[.bool false, .nilFunc]) 16 Tryz.underlying115 Tryz.infoStep rfl _ done.length cs rfl (hown.alloc _) (.bool false) (.func (.func 123) #[] #[.pointer (some ⟨wr.heap.size, 0, none⟩), .pointer (some ⟨w.heap.size, 0, none⟩)]) (wr.heap.size + 1) (by simp) rfl rfl rfl (by unfold maxLen; omega) (by omega) (by simp; omega) ?_; intro g cap w1 hg hown1 hb1 hk1)
              have hkk : PKept wr w1 := ((Lib.OthersKept.refl _ _ wr).alloc _).trans hk1
              have hrel := step_rel hown1 hpa hkk (s := some (lit fold p[i])) ⟨rfl, .inr (.inr ⟨_, _, fold, p[i], rfl, kept_box hk1 (heap_alloc_new wr _) (by decide), kept_box hkk hbf (by decide), rfl⟩)⟩
              go_roundw
              case rel => exact ⟨i + 1, done ++ [some (lit fold p[i])], _, by omega, by go_num, hrel.1, hrel.2, (hb.alloc hsz _).trans hb1, kept_box hkk hbf (by decide), HD, by simp; omega⟩
              case measure => simp [intOf]; omega
    · obtain rfl : i = p.length := by omega
      go_wp2
      go_ret2
      refine ⟨hb, ?_⟩
      have h := HS.out
      rw [List.drop_length, stepsA_nil] at h
      rw [h]
      exact ⟨_, cs, rfl, by simpa using hown, by simpa using hpa⟩
end Go.Proofs.YtjgdfgpnmmkjfaaGreatDoor

/- How many bytes a letter takes (the reference): every letter. -/
import Derived.Test.YtkahakhhdiffcaaGreatDoorCRdP
namespace Go.Proofs.YtkahakhhdiffcaaGreatDoor
set_option linter.unusedVariables false
set_option linter.unusedSimpArgs false
open Go.RowKit Go.Shelf
theorem months_cut99 : monthsL.map (·.take 99) = monthsL := by decide
theorem weekdays_cut99 : weekdaysL.map (·.take 99) = weekdaysL := by decide
theorem pm_cut2 : ([[65, 77], [80, 77]] : List Bs).map (·.take 2) = [[65, 77], [80, 77]] := by decide
theorem takenC_66 (s : Bs) : takenC 66 s = namedC s monthsL 99 := by rw [named_cut, months_cut99]; rfl
theorem takenC_98 (s : Bs) : takenC 98 s = namedC s monthsL 3 := by rw [named_cut]; rfl
theorem takenC_65 (s : Bs) : takenC 65 s = namedC s weekdaysL 99 := by rw [named_cut, weekdays_cut99]; rfl
theorem takenC_97 (s : Bs) : takenC 97 s = namedC s weekdaysL 3 := by rw [named_cut]; rfl
theorem takenC_112 (s : Bs) : takenC 112 s = namedC s [[65, 77], [80, 77]] 2 := by rw [named_cut, pm_cut2]; rfl
theorem taken_all (c : UInt8) (hi : (info (c.toNat : Int)).isSome = true) (s : Bs) (hs : s.length ≤ 1000000) (w : World) :
    Calls Tryz.prog 89 #[.int .u8 (c.toNat : Int), .string ⟨s.toArray⟩] w fun e w' => e = .returned (.int .i64 (takenC c s)) ∧ Below w.heap.size w w' := by
  have hq : ∀ {R : Int}, (Calls Tryz.prog 89 #[.int .u8 (c.toNat : Int), .string ⟨s.toArray⟩] w fun e w' => e = .returned (.int .i64 R) ∧ w = w') → Calls Tryz.prog 89 #[.int .u8 (c.toNat : Int), .string ⟨s.toArray⟩] w fun e w' => e = .returned (.int .i64 R) ∧ Below w.heap.size w w' := fun h => h.mono fun e w' ⟨h1, h2⟩ => ⟨h1, h2 ▸ Below.refl _ _⟩
  have hk := taken_known c.toNat c.toNat_lt hi
  have hof : ∀ n : Nat, n < 256 → c.toNat = n → c = UInt8.ofNat n := fun n hn h => by
    apply UInt8.toNat_inj.1
    rw [h, UInt8.toNat_ofNat_of_lt' (by simpa [UInt8.size] using hn)]
  simp only [List.mem_cons, List.not_mem_nil, or_false] at hk
  rcases hk with h | h | h | h | h | h | h | h | h | h | h | h | h | h | h | h | h | h | h
  · obtain rfl : c = 89 := hof 89 (by omega) h
    exact hq (taken_89 s w)
  · obtain rfl : c = 71 := hof 71 (by omega) h
    exact hq (taken_71 s w)
  · obtain rfl : c = 106 := hof 106 (by omega) h
    exact hq (taken_106 s w)
  · obtain rfl : c = 117 := hof 117 (by omega) h
    exact hq (taken_117 s w)
  · obtain rfl : c = 121 := hof 121 (by omega) h
    exact hq (taken_121 s w)
  · obtain rfl : c = 109 := hof 109 (by omega) h
    exact hq (taken_109 s w)
  · obtain rfl : c = 100 := hof 100 (by omega) h
    exact hq (taken_100 s w)
  · obtain rfl : c = 72 := hof 72 (by omega) h
    exact hq (taken_72 s w)
  · obtain rfl : c = 77 := hof 77 (by omega) h
    exact hq (taken_77 s w)
  · obtain rfl : c = 83 := hof 83 (by omega) h
    exact hq (taken_83 s w)
  · obtain rfl : c = 73 := hof 73 (by omega) h
    exact hq (taken_73 s w)
  · obtain rfl : c = 86 := hof 86 (by omega) h
    exact hq (taken_86 s w)
  · obtain rfl : c = 101 := hof 101 (by omega) h
    exact hq (taken_101 s w)
  · obtain rfl : c = 115 := hof 115 (by omega) h
    exact hq (taken_115 s hs w)
  · obtain rfl : c = 112 := hof 112 (by omega) h
    rw [takenC_112]
    exact taken_112 s hs w
  · obtain rfl : c = 66 := hof 66 (by omega) h
    rw [takenC_66]
    exact taken_66 s hs w
  · obtain rfl : c = 98 := hof 98 (by omega) h
    rw [takenC_98]
    exact taken_98 s hs w
  · obtain rfl : c = 65 := hof 65 (by omega) h
    rw [takenC_65]
    exact taken_65 s hs w
  · obtain rfl : c = 97 := hof 97 (by omega) h
    rw [takenC_97]
    exact taken_97 s hs w
end Go.Proofs.YtkahakhhdiffcaaGreatDoor

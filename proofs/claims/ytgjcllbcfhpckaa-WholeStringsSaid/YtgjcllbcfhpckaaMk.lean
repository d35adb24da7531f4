import Derived.Test.YtgjcllbcfhpckaaProg
import Derived.Test.YtgjcllbcfhpckaaEm0
import Derived.WalkSpells
import Derived.WalkLawsBesides
import Derived.Deep.QuietTactic
import Derived.BigQuiet
import Derived.Lib.Hide
import Derived.Handy
namespace Go.Proofs.Ytgjcllbcfhpckaa
open Go.RowKit

def placeOf (m : Int) : Int := if m = 1 then 0 else if m = 2 then 1 else if m = 4 then 2 else 3

set_option maxHeartbeats 400000 in
theorem place_any (m : Int) (w : World) :
    Calls Try.prog 31 #[.int .i64 m] w fun e w' => e = .returned (.int .i64 (placeOf m)) ∧ w = w' := by
  by_cases h1 : m = 1
  · subst h1
    go_enter Try.func31, Try.ntmps31
    go_wp2
    go_rounds 4
    go_ret
    exact ⟨rfl, rfl⟩
  by_cases h2 : m = 2
  · subst h2
    go_enter Try.func31, Try.ntmps31
    go_wp2
    go_rounds 4
    go_ret
    exact ⟨rfl, rfl⟩
  by_cases h4 : m = 4
  · subst h4
    go_enter Try.func31, Try.ntmps31
    go_wp2
    go_rounds 4
    go_ret
    exact ⟨rfl, rfl⟩
  have e1 : (m == 1) = false := by simpa using h1
  have e2 : (m == 2) = false := by simpa using h2
  have e4 : (m == 4) = false := by simpa using h4
  have hp : placeOf m = 3 := by simp [placeOf, h1, h2, h4]
  have hp := Lib.hid hp
  clear h1 h2 h4
  go_enter Try.func31, Try.ntmps31
  go_wp2
  go_rounds 4
  go_ret
  exact ⟨by rw [hp.out]; rfl, rfl⟩

set_option maxHeartbeats 400000 in
theorem mright_any (m : Int) (w : World) :
    Calls Try.prog 24 #[.int .i64 m] w fun e w' => e = .returned (.bool (decide (0 ≤ m) && decide (m ≤ 4))) ∧ w = w' := by
  by_cases h1 : 0 ≤ m <;> by_cases h2 : m ≤ 4 <;>
  (go_enter Try.func24, Try.ntmps24
   go_wp2
   go_ret
   exact ⟨by simp [h1, h2], rfl⟩)

def mayOf (set m : Int) : Int := if placeOf m = 3 then 1 else if 0 ≤ set ∧ set ≤ 4 then 0 else 4

theorem placeOf_bd (m : Int) : 0 ≤ placeOf m ∧ placeOf m ≤ 3 := by unfold placeOf; (repeat' split) <;> omega







set_option maxHeartbeats 400000 in
theorem may_any (set m : Int) (w : World) :
    Calls Try.prog 28 #[.int .i64 set, .int .i64 m] w fun e w' => e = .returned (.int .i64 (mayOf set m)) ∧ w = w' := by
  obtain ⟨x, hx⟩ : ∃ x, x = mayOf set m := ⟨_, rfl⟩
  rw [← hx]; replace hx := Lib.hid hx
  go_enter Try.func28, Try.ntmps28
  go_wp2_with (first | (go_at_call 31; refine (place_any _ _).mono ?_; rintro e w' ⟨rfl, rfl⟩) | (go_at_call 24; refine (mright_any _ _).mono ?_; rintro e w' ⟨rfl, rfl⟩))
  all_goals go_ret
  all_goals refine ⟨ret_i ?_, rfl⟩
  all_goals rw [hx.out, mayOf]
  all_goals simp_all
  all_goals omega

theorem mayOf_bd (a b : Int) : 0 ≤ mayOf a b ∧ mayOf a b ≤ 4 := by unfold mayOf; (repeat' split) <;> omega

def hasOf (set m : Int) : Bool := mayOf set m == 0 && (bits .and .i64 set m != 0)

set_option maxHeartbeats 400000 in
theorem has_any (set m : Int) (w : World) :
    Calls Try.prog 27 #[.int .i64 set, .int .i64 m] w fun e w' => e = .returned (.bool (hasOf set m)) ∧ w = w' := by
  obtain ⟨x, hx⟩ : ∃ x, x = hasOf set m := ⟨_, rfl⟩
  rw [← hx]; replace hx := Lib.hid hx
  obtain ⟨y, hy⟩ : ∃ y, y = mayOf set m := ⟨_, rfl⟩
  replace hy := Lib.hid hy
  go_enter Try.func27, Try.ntmps27
  go_wp2_with (first | (go_at_call 28; refine (may_any _ _ _).mono ?_; rintro e w' ⟨rfl, rfl⟩; rw [← hy.out]))
  all_goals go_ret
  all_goals refine ⟨ret_b ?_, rfl⟩
  all_goals rw [hx.out, hasOf, ← hy.out]
  all_goals simp_all

def addOf (set m : Int) : Int × Int := if mayOf set m ≠ 0 then (0, mayOf set m) else if set = 4 ∨ m = 4 then (4, 0) else (bits .or .i64 set m, 0)
def takeOf (set m : Int) : Int × Int := if mayOf set m ≠ 0 then (0, mayOf set m) else (bits .andNot .i64 set m, 0)

set_option maxHeartbeats 400000 in
theorem add_any (set m : Int) (w : World) :
    Calls Try.prog 22 #[.int .i64 set, .int .i64 m] w fun e w' => e = .returned (.tuple #[.int .i64 (addOf set m).1, .int .i64 (addOf set m).2]) ∧ w = w' := by
  obtain ⟨x, z, hx⟩ : ∃ x z, (x, z) = addOf set m := ⟨_, _, rfl⟩
  rw [← hx]; replace hx := Lib.hid hx
  obtain ⟨y, hy⟩ : ∃ y, y = mayOf set m := ⟨_, rfl⟩
  replace hy := Lib.hid hy
  go_enter Try.func22, Try.ntmps22
  go_wp2_with (first | (go_at_call 28; refine (may_any _ _ _).mono ?_; rintro e w' ⟨rfl, rfl⟩; rw [← hy.out]))
  all_goals go_ret2
  all_goals have hx := hx.out
  all_goals rw [addOf, ← hy.out] at hx
  all_goals simp_all

set_option maxHeartbeats 400000 in
theorem take_any (set m : Int) (w : World) :
    Calls Try.prog 23 #[.int .i64 set, .int .i64 m] w fun e w' => e = .returned (.tuple #[.int .i64 (takeOf set m).1, .int .i64 (takeOf set m).2]) ∧ w = w' := by
  obtain ⟨x, z, hx⟩ : ∃ x z, (x, z) = takeOf set m := ⟨_, _, rfl⟩
  rw [← hx]; replace hx := Lib.hid hx
  obtain ⟨y, hy⟩ : ∃ y, y = mayOf set m := ⟨_, rfl⟩
  replace hy := Lib.hid hy
  go_enter Try.func23, Try.ntmps23
  go_wp2_with (first | (go_at_call 28; refine (may_any _ _ _).mono ?_; rintro e w' ⟨rfl, rfl⟩; rw [← hy.out]))
  all_goals go_ret2
  all_goals have hx := hx.out
  all_goals rw [takeOf, ← hy.out] at hx
  all_goals simp_all

end Go.Proofs.Ytgjcllbcfhpckaa

/- The contract of emendertop.awake: it returns true and leaves all memory that was there as it was. No condition. -/
import Derived.Test.YtgjcllbcfhpckaaDo
namespace Go.Proofs.Ytgjcllbcfhpckaa
open Go.RowKit

def tokX : Tok := ⟨0, 0, 120, 0⟩

theorem isToks_newX (w : World) (e : TypeId) : IsToks (w.alloc (.cells #[.int .i64 0, .int .i64 0, .int .i64 120, .int .i64 0] e)) (.slice (some ⟨w.heap.size, 0, none⟩) 1 1) [tokX] :=
  isToks_row (e := e) (fr := (0, 0)) (l := [tokX]) (heap_alloc_new _ _) (by simp [maxLen])

theorem applyOf_X : applyOf [] 0 0 [tokX] = ([tokX], 0) := by
  have h1 : right tokX = true := by decide
  have h2 : checkOf [] = (0, 0) := by decide
  have h3 : checkOf [tokX] = (1, 0) := by decide
  have h4 : stepCheckOf 0 0 [tokX] = 0 := by decide
  simp [applyOf, h2, h3, h4]

set_option maxHeartbeats 1000000 in
theorem awake_any (w : World) :
    Calls Try.prog 11 #[] w fun e w' => e = .returned (.bool true) ∧ Below w.heap.size w w' := by
  go_enter Try.func11, Try.ntmps11
  go_wp2_with fail
  refine (apply_any _ _ [] [tokX] 0 0 _ (isToks_empty _ _ _ (by simp [maxLen])) (isToks_newX w _)).mono ?_
  rw [applyOf_X]
  rintro e w1 ⟨v, rfl, hb1, _, _, hg⟩
  obtain ⟨g, rfl, _, _⟩ := hg rfl
  go_wp2
  go_ret
  exact ⟨rfl, below_step (below_alloc _ _) hb1⟩

end Go.Proofs.Ytgjcllbcfhpckaa

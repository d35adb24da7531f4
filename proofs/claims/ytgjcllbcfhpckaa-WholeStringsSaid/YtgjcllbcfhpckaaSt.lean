/- The contracts of package step, at steps that replace (kind 0). -/
import Derived.Test.YtgjcllbcfhpckaaFl
import Derived.Test.YtgjcllbcfhpckaaEm1
namespace Go.Proofs.Ytgjcllbcfhpckaa
open Go.RowKit

/-- a step that replaces: from f to t by the slice value sv -/
def stepV (f t : Int) (sv : Value) : Value := .agg #[.int .i64 0, .int .i64 f, .int .i64 t, .int .i64 0, .int .i64 0, .int .i64 0, sv, .int .i64 0]

def stepOk (f t : Int) (s : List Tok) : Bool := decide (0 ≤ f) && decide (f ≤ t) && decide (t ≤ 2048) && s.all right
def stepCheckOf (f t : Int) (s : List Tok) : Int := if 2048 < s.length then 2 else if stepOk f t s then 0 else 1

theorem stepOk_next {f t : Int} {s : List Tok} {k : Nat} {ok : Bool} (h : Hid (ok = stepOk f t (s.take k))) (hlt : k < s.length) : Hid ((ok && right s[k]) = stepOk f t (s.take (k + 1))) := by
  rw [h.out, List.take_succ_eq_append_getElem hlt]
  exact Lib.hid (by simp only [stepOk, Bool.and_assoc, List.all_append, List.all_cons, List.all_nil, Bool.and_true])

set_option maxHeartbeats 1000000 in
theorem stepCheck_any (f t : Int) (sv : Value) (s : List Tok) (w : World) (hv : IsToks w sv s) :
    Calls Try.prog 14 #[stepV f t sv] w fun e w' => e = .returned (.int .i64 (stepCheckOf f t s)) ∧ Below w.heap.size w w' := by
  obtain ⟨a, c, rfl, hlc, hc, ht⟩ := hv
  unfold maxLen at hc
  obtain ⟨x, hx⟩ : ∃ x, x = stepCheckOf f t s := ⟨_, rfl⟩
  rw [← hx]; replace hx := Lib.hid hx
  replace ht := Lib.hid ht
  unfold stepV
  go_enter Try.func14, Try.ntmps14
  go_wp2
  · go_ret
    have := hx.out; unfold stepCheckOf at this; rw [if_pos (by omega)] at this
    exact ⟨ret_i this.symm, (Below.refl _ _).alloc (Nat.le_refl _) _⟩
  all_goals
    go_loopw [4, 123] (fun o i wr => ∃ (k : Nat) (ok : Bool), k ≤ s.length ∧ i = .int .i64 k ∧ o = .bool ok ∧ Hid (ok = (stepOk f t (s.take k))) ∧ Below w.heap.size w wr) (fun _ i _ => s.length - (intOf i).toNat)
    case atStart =>
      refine ⟨0, _, by omega, rfl, rfl, Lib.hid ?_, (((Below.refl _ _).alloc (Nat.le_refl _) _).alloc (by simp) _)⟩
      simp [stepOk]; try omega
    case round =>
      obtain ⟨k, ok, hk, rfl, rfl, hok, hbel⟩ := hrel
      by_cases hlt : k < s.length
      · have hr := ht.out
        rcases hr with hr | ⟨b, off, rfl, hb, hr⟩
        · rw [hr] at hlt; simp at hlt
        obtain ⟨g0, g1, g2, g3⟩ := tok_cells hr k hlt
        clear hr
        have e0 := (hbel.cell (p := ⟨b, off + k * 4, none⟩) hb).trans g0
        have e1 := (hbel.cell (p := ⟨b, off + k * 4 + 1, none⟩) hb).trans g1
        have e2 := (hbel.cell (p := ⟨b, off + k * 4 + 2, none⟩) hb).trans g2
        have e3 := (hbel.cell (p := ⟨b, off + k * 4 + 3, none⟩) hb).trans g3
        clear g0 g1 g2 g3 ht
        obtain ⟨x, htk⟩ : ∃ x, x = s[k] := ⟨_, rfl⟩
        rw [← htk] at e0 e1 e2 e3
        replace htk := Lib.hid htk
        have hsz := hbel.size
        cases ok
        · go_wp2
          go_roundw
          case rel => exact ⟨k + 1, false, by omega, by go_num, rfl, stepOk_next hok hlt, hbel.alloc (by omega) _⟩
          case measure => simp [intOf]; omega
        · go_wp2_with (go_at_call 18; refine (right_any x _).mono ?_; rintro e w1 ⟨rfl, hb1⟩)
          go_roundw
          case rel => exact ⟨k + 1, _, by omega, by go_num, rfl, by rw [htk.out]; exact stepOk_next hok hlt, below_in hbel (by omega) (by assumption)⟩
          case measure => simp [intOf]; omega
      · obtain rfl : k = s.length := by omega
        clear ht
        rw [List.take_length] at hok
        cases ok
        · go_wp2
          go_ret
          have := hx.out; unfold stepCheckOf at this; rw [if_neg (by omega), ← hok.out] at this
          exact ⟨ret_i this.symm, hbel⟩
        · go_wp2
          go_ret
          have := hx.out; unfold stepCheckOf at this; rw [if_neg (by omega), ← hok.out] at this
          exact ⟨ret_i this.symm, hbel⟩

theorem stepCheck_eq {f t : Int} {sv : Value} {s : List Tok} {w : World} {y : Int} (hy : Hid (y = stepCheckOf f t s)) (hv : IsToks w sv s) :
    Calls Try.prog 14 #[stepV f t sv] w fun e w' => e = .returned (.int .i64 y) ∧ Below w.heap.size w w' := by
  have := stepCheck_any f t sv s w hv
  rw [← hy.out] at this
  exact this

end Go.Proofs.Ytgjcllbcfhpckaa

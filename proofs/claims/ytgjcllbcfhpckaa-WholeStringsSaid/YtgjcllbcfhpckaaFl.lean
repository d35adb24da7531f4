/- The contracts of package flat: a token, a document of tokens. -/
import Derived.Test.YtgjcllbcfhpckaaMk
namespace Go.Proofs.Ytgjcllbcfhpckaa
open Go.RowKit

def right (x : Tok) : Bool :=
  if x.k = 0 then decide (x.t = 0) && decide (0 ≤ x.n) && decide (x.n ≤ 1114111) && !decide (x.n / 2048 = 27) && (decide (0 ≤ x.m) && decide (x.m ≤ 4))
  else if x.k = 2 then decide (x.t = 0) && decide (x.n = 0) && decide (x.m = 0)
  else if x.k = 1 ∨ x.k = 3 then decide (0 < x.t) && decide (x.t < 16) && decide (0 ≤ x.n) && decide (x.n < 16) && decide (x.m = 0)
  else false

set_option maxHeartbeats 400000 in
theorem right_any (x : Tok) (w : World) :
    Calls Try.prog 18 #[x.val] w fun e w' => e = .returned (.bool (right x)) ∧ Below w.heap.size w w' := by
  obtain ⟨k, t, n, m⟩ := x
  obtain ⟨r, hr⟩ : ∃ r, r = right ⟨k, t, n, m⟩ := ⟨_, rfl⟩
  rw [← hr]; replace hr := Lib.hid hr
  simp only [Tok.val]
  go_enter Try.func18, Try.ntmps18
  go_wp2_with (go_at_call 24; refine (mright_any _ _).mono ?_; rintro e w' ⟨rfl, rfl⟩)
  all_goals go_ret
  all_goals refine ⟨ret_b ?_, (Below.refl _ _).alloc (Nat.le_refl _) _⟩
  all_goals (rw [hr.out]; simp only [right, beq_iff_eq, beq_eq_false_iff_ne] at *; clear hr)
  all_goals (simp [*]; try first | omega | (rw [Bool.eq_iff_iff]; simp))

def chk : List Tok → Nat → Nat → Nat × Int
  | [], i, d => (i, if 0 < d then 3 else 0)
  | x :: r, i, d => if right x = false ∨ (x.k = 2 ∧ d = 0) then (i, 4) else if x.k = 1 ∧ d = 32 then (i, 8)
    else if x.k = 1 then chk r (i + 1) (d + 1) else if x.k = 2 then chk r (i + 1) (d - 1) else chk r (i + 1) d
def checkOf (l : List Tok) : Nat × Int := if 2048 < l.length then (0, 2) else chk l 0 0

section
variable {l : List Tok} {k n : Nat} {t : Tok} {r : Nat × Int}
theorem chk_at (h : Hid (chk (l.drop k) k n = r)) (hlt : k < l.length) (ht : Hid (t = l[k])) :
    (if right t = false ∨ (t.k = 2 ∧ n = 0) then (k, 4) else if t.k = 1 ∧ n = 32 then (k, 8)
            else if t.k = 1 then chk (l.drop (k + 1)) (k + 1) (n + 1) else if t.k = 2 then chk (l.drop (k + 1)) (k + 1) (n - 1) else chk (l.drop (k + 1)) (k + 1) n) = r := by
  rw [← h.out, List.drop_eq_getElem_cons hlt, chk, ← ht.out]
theorem chk_bad (h : Hid (chk (l.drop k) k n = r)) (hlt : k < l.length) (ht : Hid (t = l[k])) (h1 : right t = false ∨ (t.k = 2 ∧ n = 0)) : (k, 4) = r := by
  have := chk_at h hlt ht; rwa [if_pos h1] at this
theorem chk_deep (h : Hid (chk (l.drop k) k n = r)) (hlt : k < l.length) (ht : Hid (t = l[k])) (hr : right t = true) (h1 : t.k = 1) (hn : n = 32) : (k, 8) = r := by
  have := chk_at h hlt ht; rwa [if_neg (by simp [hr]; omega), if_pos ⟨h1, hn⟩] at this
theorem chk_open (h : Hid (chk (l.drop k) k n = r)) (hlt : k < l.length) (ht : Hid (t = l[k])) (hr : right t = true) (h1 : t.k = 1) (hn : n ≠ 32) : Hid (chk (l.drop (k + 1)) (k + 1) (n + 1) = r) := by
  have := chk_at h hlt ht; rw [if_neg (by simp [hr]; omega), if_neg (by omega), if_pos h1] at this; exact Lib.hid this
theorem chk_close (h : Hid (chk (l.drop k) k n = r)) (hlt : k < l.length) (ht : Hid (t = l[k])) (hr : right t = true) (h1 : t.k = 2) (hn : n ≠ 0) : Hid (chk (l.drop (k + 1)) (k + 1) (n - 1) = r) := by
  have := chk_at h hlt ht; rw [if_neg (by simp [hr]; omega), if_neg (by omega), if_neg (by omega), if_pos h1] at this; exact Lib.hid this
theorem chk_else (h : Hid (chk (l.drop k) k n = r)) (hlt : k < l.length) (ht : Hid (t = l[k])) (hr : right t = true) (h1 : t.k ≠ 1) (h2 : t.k ≠ 2) : Hid (chk (l.drop (k + 1)) (k + 1) n = r) := by
  have := chk_at h hlt ht; rw [if_neg (by simp [hr]; omega), if_neg (by omega), if_neg h1, if_neg h2] at this; exact Lib.hid this
end

set_option maxHeartbeats 400000 in
theorem check_any (v : Value) (l : List Tok) (w : World) (hv : IsToks w v l) :
    Calls Try.prog 13 #[v] w fun e w' => e = .returned (.tuple #[.int .i64 (checkOf l).1, .int .i64 (checkOf l).2]) ∧ Below w.heap.size w w' := by
  obtain ⟨a, c, rfl, hlc, hc, ht⟩ := hv
  unfold maxLen at hc
  obtain ⟨x, z, hx⟩ : ∃ x z, (x, z) = checkOf l := ⟨_, _, rfl⟩
  rw [← hx]; replace hx := Lib.hid hx
  replace ht := Lib.hid ht
  go_enter Try.func13, Try.ntmps13
  go_wp2
  · go_ret2
    have := hx.out; unfold checkOf at this; rw [if_pos (by omega)] at this
    obtain ⟨rfl, rfl⟩ := Prod.mk.inj this
    exact ⟨rfl, Below.refl _ _⟩
  · go_loopw [5, 13] (fun d i wr => ∃ k n : Nat, k ≤ l.length ∧ n ≤ 32 ∧ i = .int .i64 k ∧ d = .int .i64 n ∧ Hid (chk (l.drop k) k n = (x, z)) ∧ Below w.heap.size w wr ∧
        ∃ C : Array Value, wr.heap[w.heap.size]? = some (.cells C 63 (0, 0)) ∧ C.size = 32) (fun _ i _ => l.length - (intOf i).toNat)
    case atStart =>
      refine ⟨0, 0, by omega, by omega, rfl, rfl, Lib.hid ?_, (Below.refl _ _).alloc (Nat.le_refl _) _, _, heap_alloc_new _ _, rfl⟩
      have := hx.out; unfold checkOf at this; rw [if_neg (by omega)] at this
      simpa using this.symm
    case round =>
      obtain ⟨k, n, hk, hn, rfl, rfl, hch, hbel, C, hC, hCs⟩ := hrel
      by_cases hlt : k < l.length
      · have hr := ht.out
        rcases hr with hr | ⟨b, off, rfl, hb, hr⟩
        · rw [hr] at hlt; simp at hlt
        obtain ⟨g0, g1, g2, g3⟩ := tok_cells hr k hlt
        clear hr
        have e0 := (hbel.cell (p := ⟨b, off + k * 4, none⟩) hb).trans g0
        have e1 := (hbel.cell (p := ⟨b, off + k * 4 + 1, none⟩) hb).trans g1
        have e2 := (hbel.cell (p := ⟨b, off + k * 4 + 2, none⟩) hb).trans g2
        have e3 := (hbel.cell (p := ⟨b, off + k * 4 + 3, none⟩) hb).trans g3
        clear g0 g1 g2 g3 ht
        obtain ⟨t, htk⟩ : ∃ t, t = l[k] := ⟨_, rfl⟩
        rw [← htk] at e0 e1 e2 e3
        replace htk := Lib.hid htk
        have hb2 := bcell hbel
        have hw : w.heap.size < wr.heap.size := by
          rcases Nat.lt_or_ge w.heap.size wr.heap.size with h | h
          · exact h
          · rw [Array.getElem?_eq_none h] at hC; simp at hC
        obtain ⟨rt, hrt⟩ : ∃ rt, rt = right t := ⟨_, rfl⟩
        replace hrt := Lib.hid hrt
        have hfr : wr.frozen? ⟨w.heap.size, n, none⟩ = false := frozen_of_heap hC rfl
        have hcl : n < 32 → wr.cell? ⟨w.heap.size, n, none⟩ = some (C.getD n undef) := fun h => by
          rw [cell_of_heap hC]; simp [Array.getD, show n < C.size by omega]
        cases rt
        · go_wp2_with (go_at_call 18; refine (right_any t _).mono ?_; rintro e w1 ⟨rfl, hb1⟩; have hc1 := bcell hb1; have hs1 := hb1.size; rw [← hrt.out])
          all_goals go_ret2
          all_goals
            obtain ⟨rfl, rfl⟩ := Prod.mk.inj (chk_bad hch hlt htk (.inl hrt.out.symm))
            exact ⟨rfl, below_in hbel (by omega) hb1⟩
        · rcases Nat.lt_or_ge n 32 with h32 | h32
          · have hcl := hcl h32
            go_wp2_with (go_at_call 18; refine (right_any t _).mono ?_; rintro e w1 ⟨rfl, hb1⟩; have hc1 := bcell hb1; have hs1 := hb1.size; rw [← hrt.out])
            all_goals have hC1 := heap_in hC (by assumption)
            all_goals have hbw : Below w.heap.size w _ := below_in hbel (by omega) (by assumption)
            · go_ret2
              obtain ⟨rfl, rfl⟩ := Prod.mk.inj (chk_bad hch hlt htk (.inr ⟨by assumption, by simp_all⟩))
              exact ⟨rfl, hbw⟩
            · have hn0 : n ≠ 0 := by
                have h0 : ((n : Int) == 0) = false := by assumption
                simpa using h0
              go_roundw
              case rel => exact ⟨k + 1, n - 1, by omega, by omega, by go_num, by go_num, chk_close hch hlt htk hrt.out.symm (by assumption) hn0, hbw, C, hC1, hCs⟩
              case measure => simp [intOf]; omega
            · go_roundw
              case rel => exact ⟨k + 1, n + 1, by omega, by omega, by go_num, by go_num, chk_open hch hlt htk hrt.out.symm (by assumption) (by omega), hbw.setCell (by simp) _, _, heap_setCell_at hC1 _, by simpa using hCs⟩
              case measure => simp [intOf]; omega
            · go_roundw
              case rel => exact ⟨k + 1, n, by omega, by omega, by go_num, by go_num, chk_else hch hlt htk hrt.out.symm (by assumption) (by assumption), hbw, C, hC1, hCs⟩
              case measure => simp [intOf]; omega
          · obtain rfl : n = 32 := by omega
            go_wp2_with (go_at_call 18; refine (right_any t _).mono ?_; rintro e w1 ⟨rfl, hb1⟩; have hc1 := bcell hb1; have hs1 := hb1.size; rw [← hrt.out])
            all_goals have hC1 := heap_in hC (by assumption)
            all_goals have hbw : Below w.heap.size w _ := below_in hbel (by omega) (by assumption)
            · go_roundw
              case rel => exact ⟨k + 1, 31, by omega, by omega, by go_num, by go_num, chk_close hch hlt htk hrt.out.symm (by assumption) (by omega), hbw, C, hC1, hCs⟩
              case measure => simp [intOf]; omega
            · go_ret2
              obtain ⟨rfl, rfl⟩ := Prod.mk.inj (chk_deep hch hlt htk hrt.out.symm (by assumption) rfl)
              exact ⟨rfl, hbw⟩
            · go_roundw
              case rel => exact ⟨k + 1, 32, by omega, by omega, by go_num, by go_num, chk_else hch hlt htk hrt.out.symm (by assumption) (by assumption), hbw, C, hC1, hCs⟩
              case measure => simp [intOf]; omega
      · obtain rfl : k = l.length := by omega
        clear ht hx
        go_wp2
        all_goals go_ret2
        all_goals (have := hch.out; simp [chk] at this; simp_all)

theorem check_eq {v : Value} {l : List Tok} {w : World} {x : Nat} {z : Int} (hx : Hid ((x, z) = checkOf l)) (hv : IsToks w v l) :
    Calls Try.prog 13 #[v] w fun e w' => e = .returned (.tuple #[.int .i64 x, .int .i64 z]) ∧ Below w.heap.size w w' := by
  have := check_any v l w hv
  rw [← hx.out] at this
  exact this

end Go.Proofs.Ytgjcllbcfhpckaa

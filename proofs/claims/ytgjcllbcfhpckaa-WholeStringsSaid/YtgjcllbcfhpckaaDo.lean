/- The contracts of step.do and step.Apply at steps that replace. Conditions: the places lie in the document; the lists are short enough. -/
import Derived.Test.YtgjcllbcfhpckaaSt
import Derived.Test.YtgjcllbcfhpckaaTk
import Derived.StillTailTactics
namespace Go.Proofs.Ytgjcllbcfhpckaa
open Go.RowKit

set_option maxHeartbeats 1000000 in
theorem do_any (v sv : Value) (l s : List Tok) (f t : Nat) (w : World) (hv : IsToks w v l) (hs : IsToks w sv s) (hft : f ≤ t) (htl : t ≤ l.length) (hl : l.length ≤ 2048) (hsl : s.length ≤ 2048) :
    Calls Try.prog 15 #[v, stepV f t sv] w (RetRow w (l.take f ++ s ++ l.drop t)) := by
  obtain ⟨a, c, rfl, hlc, hc, ht⟩ := hv
  obtain ⟨a', c', rfl, hlc', hc', ht'⟩ := hs
  unfold maxLen at hc hc'
  replace ht := Lib.hid ht; replace ht' := Lib.hid ht'
  unfold stepV
  have i1 : (f : Int) ≤ c := by omega
  have i2 : (t : Int) ≤ (l.length : Int) := by omega
  have i3 : (l.length : Int) ≤ c := by omega
  have i4 : (f : Int) ≤ l.length := by omega
  go_enter Try.func15, Try.ntmps15
  go_wp2
  refine wp_region_tail 10 (by kernel_rfl) (by kernel_rfl) ?_
  simp only [List.take_succ_cons, List.take_zero, List.drop_succ_cons, List.drop_zero]
  repeat still_step
  refine wpStill_nil ?_
  have hlen : lens [l.take f, s, l.drop t] ≤ 1048576 := by simp [lens]; omega
  have hr1 : IsToks w (.slice a f c) (l.take f) := isToks_take ht.out hlc hc (by omega)
  have hr2 : IsToks w (.slice a' s.length c') s := ⟨_, _, rfl, hlc', hc', ht'.out⟩
  have hr3 : IsToks w (.slice (a.map (·.add (t * 4))) (l.length - t) (c - t)) (l.drop t) := isToks_drop ht.out hlc hc htl
  have hr4 : l.length = t → IsToks w (.slice a 0 0) (l.drop t) := fun h => by rw [List.drop_of_length_le (by omega)]; exact isToks_empty _ _ _ (by simp [maxLen])
  replace hr1 := Lib.hid hr1; replace hr2 := Lib.hid hr2; replace hr3 := Lib.hid hr3; replace hr4 := Lib.hid hr4; replace hlen := Lib.hid hlen
  rcases Nat.lt_or_ge t c with htc | htc
  · go_wp2_with (go_at_call 16; refine (tokens_any _ [l.take f, s, l.drop t] _ ?_ hlen.out).mono ?_)
    case refine_1 => exact isTokss_new3 hr1.out hr2.out hr3.out
    rintro e w1 ⟨g, rfl, hb1, hg, hh⟩
    go_wp2
    go_ret
    refine ⟨g, by simp, below_step (((below_alloc _ _).alloc (by simp) _).drew) hb1, by simp at hg; omega, by simpa using hh⟩
  · obtain rfl : t = c := by omega
    have hr4 := hr4.out (by omega)
    replace hr4 := Lib.hid hr4
    have hlt : l.length = t := by omega
    replace hlt := Lib.hid hlt
    go_wp2_with (go_at_call 16; refine (tokens_any _ [l.take f, s, l.drop t] _ ?_ hlen.out).mono ?_)
    case refine_1 => exact isTokss_new3 hr1.out hr2.out hr4.out
    rintro e w1 ⟨g, rfl, hb1, hg, hh⟩
    go_wp2
    go_ret
    refine ⟨g, by have := hlt.out; simp; omega, below_step (((below_alloc _ _).alloc (by simp) _).drew) hb1, by simp at hg; omega, by simpa using hh⟩

def applyOf (l : List Tok) (f t : Int) (s : List Tok) : List Tok × Int :=
  if (checkOf l).2 ≠ 0 then ([], (checkOf l).2)
  else if stepCheckOf f t s ≠ 0 then ([], stepCheckOf f t s)
  else if (l.length : Int) < t then ([], 1)
  else
    let out := l.take f.toNat ++ s ++ l.drop t.toNat
    if (checkOf out).2 = 0 then (out, 0) else if (checkOf out).2 = 3 then ([], 4) else ([], (checkOf out).2)

/-- tokens and an error come back; without an error the tokens are an own row -/
def RetApply (w : World) (r : List Tok × Int) (e : Ending) (w' : World) : Prop :=
  ∃ v, e = .returned (.tuple #[v, .int .i64 r.2]) ∧ Below w.heap.size w w' ∧ IsToks w' v r.1 ∧
    (r.2 ≠ 0 → v = .slice none 0 0) ∧
    (r.2 = 0 → ∃ g, v = .slice (some ⟨g, 0, none⟩) r.1.length r.1.length ∧ w.heap.size ≤ g ∧ w'.heap[g]? = some (.cells (toks r.1).toArray 48 (0, 0)))

theorem retApply_err (w w' : World) (c : Int) (hc : c ≠ 0) (h : Below w.heap.size w w') : RetApply w ([], c) (.returned (.tuple #[.slice none 0 0, .int .i64 c])) w' :=
  ⟨_, rfl, h, isToks_empty _ _ _ (by simp [maxLen]), fun _ => rfl, fun h => absurd h hc⟩

theorem checkOf_zero {l : List Tok} (h : (checkOf l).2 = 0) : l.length ≤ 2048 := by
  unfold checkOf at h
  split at h
  · simp at h
  · omega
theorem stepCheckOf_zero {f t : Int} {s : List Tok} (h : stepCheckOf f t s = 0) : 0 ≤ f ∧ f ≤ t ∧ t ≤ 2048 ∧ s.length ≤ 2048 ∧ s.all right = true := by
  unfold stepCheckOf at h
  split at h
  · omega
  · rename_i h1
    split at h
    · rename_i h2; simp [stepOk] at h2; exact ⟨by omega, by omega, by omega, by omega, by simpa using h2.2⟩
    · omega

set_option maxHeartbeats 1000000 in
theorem apply_any (v sv : Value) (l s : List Tok) (f t : Int) (w : World) (hv : IsToks w v l) (hs : IsToks w sv s) :
    Calls Try.prog 6 #[v, stepV f t sv] w (RetApply w (applyOf l f t s)) := by
  obtain ⟨r, hr⟩ : ∃ r, r = applyOf l f t s := ⟨_, rfl⟩
  rw [← hr]; replace hr := Lib.hid hr
  obtain ⟨x1, x2, hx⟩ : ∃ x1 x2, (x1, x2) = checkOf l := ⟨_, _, rfl⟩
  obtain ⟨y, hy⟩ : ∃ y, y = stepCheckOf f t s := ⟨_, rfl⟩
  have hx2 : x2 = (checkOf l).2 := by rw [← hx]
  replace hx := Lib.hid hx; replace hy := Lib.hid hy
  have hv' := hv
  obtain ⟨a, c, rfl, hlc, hc, ht⟩ := hv'
  replace ht := Lib.hid ht; replace hv := Lib.hid hv; replace hs := Lib.hid hs
  unfold maxLen at hc
  by_cases h1 : x2 = 0
  · subst h1
    by_cases h2 : y = 0
    · subst h2
      obtain ⟨f0, ft, t2, hs2, _⟩ := stepCheckOf_zero hy.out.symm
      have hl2 := checkOf_zero hx2.symm
      have hx2s := hx2.symm
      replace hx2 := Lib.hid hx2
      by_cases h3 : (l.length : Int) < t
      · have hr1 : r = ([], 1) := by rw [hr.out, applyOf, if_neg (by simpa using hx2s), if_neg (by rw [← hy.out]; simp), if_pos h3]
        replace hr1 := Lib.hid hr1; replace hx2s := Lib.hid hx2s
        unfold stepV
        go_enter Try.func6, Try.ntmps6
        go_wp2_with fail
        refine (check_eq hx (hv.out.below (below_alloc _ _))).mono ?_
        rintro e w1 ⟨rfl, hb1⟩
        have hc1 := bcell hb1
        go_wp2_with fail
        refine (stepCheck_eq hy ((hs.out.below (below_alloc _ _)).below hb1)).mono ?_
        rintro e w2 ⟨rfl, hb2⟩
        have hc2 := bcell hb2
        have hz : w.heap.size < w1.heap.size := by have := hb1.size; simp at this; omega
        go_wp2
        go_ret2
        rw [hr1.out]
        exact retApply_err _ _ _ (by simp) (below_step (below_step (below_alloc _ _) hb1) hb2)
      · have h3' : t ≤ l.length := by omega
        obtain ⟨f', rfl⟩ := Int.eq_ofNat_of_zero_le f0
        obtain ⟨t', rfl⟩ := Int.eq_ofNat_of_zero_le (show 0 ≤ t by omega)
        obtain ⟨z1, z2, hz⟩ : ∃ z1 z2, (z1, z2) = checkOf (l.take f' ++ s ++ l.drop t') := ⟨_, _, rfl⟩
        have hz2 : z2 = (checkOf (l.take f' ++ s ++ l.drop t')).2 := by rw [← hz]
        have hr1 : r = if z2 = 0 then (l.take f' ++ s ++ l.drop t', 0) else if z2 = 3 then ([], 4) else ([], z2) := by
          rw [hr.out, applyOf, if_neg (by simpa using hx2s), if_neg (by rw [← hy.out]; simp), if_neg h3, hz2]; rfl
        have hft' : f' ≤ t' := by omega
        have htl' : t' ≤ l.length := by omega
        obtain ⟨out, ho⟩ : ∃ out, out = l.take f' ++ s ++ l.drop t' := ⟨_, rfl⟩
        have hol : out.length ≤ 4096 := by rw [ho]; simp; omega
        rw [← ho] at hz hz2 hr1
        replace hz := Lib.hid hz; replace hz2 := Lib.hid hz2; replace hr1 := Lib.hid hr1; replace hx2s := Lib.hid hx2s; replace ho := Lib.hid ho
        unfold stepV
        go_enter Try.func6, Try.ntmps6
        go_wp2_with fail
        refine (check_eq hx (hv.out.below (below_alloc _ _))).mono ?_
        rintro e w1 ⟨rfl, hb1⟩
        have hc1 := bcell hb1
        go_wp2_with fail
        refine (stepCheck_eq hy ((hs.out.below (below_alloc _ _)).below hb1)).mono ?_
        rintro e w2 ⟨rfl, hb2⟩
        have hc2 := bcell hb2
        have hz1 : w.heap.size < w1.heap.size := by have := hb1.size; simp at this; omega
        have hbw2 : Below w.heap.size w w2 := below_step (below_step (below_alloc _ _) hb1) hb2
        have hz3 : w.heap.size < w2.heap.size := by have := hb2.size; omega
        go_wp2_with fail
        refine (do_any _ _ l s f' t' _ (hv.out.below hbw2) (hs.out.below hbw2) hft' htl' hl2 hs2).mono ?_
        rintro e w3 ⟨g, rfl, hb3, hg, hh⟩
        rw [← ho.out] at hh ⊢
        have hbw3 := below_step hbw2 hb3
        have hok : IsToks w3 (.slice (some ⟨g, 0, none⟩) out.length out.length) out := isToks_row hh (by simp [maxLen]; omega)
        have hg' : w.heap.size ≤ g := by omega
        replace hok := Lib.hid hok; replace hh := Lib.hid hh
        go_wp2_with fail
        refine (check_eq hz hok.out).mono ?_
        rintro e w4 ⟨rfl, hb4⟩
        have hbw4 := below_step hbw3 hb4
        clear hc1 hc2 hb1 hb2 hb3
        by_cases q0 : z2 = 0
        · subst q0
          have hr2 : r = (out, 0) := by rw [hr1.out, if_pos rfl]
          replace hr2 := Lib.hid hr2
          go_wp2
          go_ret2
          rw [hr2.out]
          exact ⟨_, rfl, hbw4, hok.out.below hb4, fun h => absurd rfl h, fun _ => ⟨g, rfl, hg', by rw [hb4.block g (lt_of_heap hh.out)]; exact hh.out⟩⟩
        · by_cases q3 : z2 = 3
          · subst q3
            have hr2 : r = ([], 4) := by rw [hr1.out, if_neg q0, if_pos rfl]
            replace hr2 := Lib.hid hr2
            go_wp2
            go_ret2
            rw [hr2.out]
            exact retApply_err _ _ _ (by simp) hbw4
          · have hr2 : r = ([], z2) := by rw [hr1.out, if_neg q0, if_neg q3]
            replace hr2 := Lib.hid hr2
            go_wp2
            go_ret2
            rw [hr2.out]
            exact retApply_err _ _ _ q0 hbw4
    · have hr1 : r = ([], y) := by rw [hr.out, applyOf, if_neg (by rw [← hx2]; simp), if_pos (by rw [← hy.out]; exact h2), hy.out]
      replace hr1 := Lib.hid hr1; replace hx2 := Lib.hid hx2
      unfold stepV
      go_enter Try.func6, Try.ntmps6
      go_wp2_with fail
      refine (check_eq hx (hv.out.below (below_alloc _ _))).mono ?_
      rintro e w1 ⟨rfl, hb1⟩
      have hc1 := bcell hb1
      go_wp2_with fail
      refine (stepCheck_eq hy ((hs.out.below (below_alloc _ _)).below hb1)).mono ?_
      rintro e w2 ⟨rfl, hb2⟩
      go_wp2
      go_ret2
      rw [hr1.out]
      exact retApply_err _ _ _ h2 (below_step (below_step (below_alloc _ _) hb1) hb2)
  · have hr1 : r = ([], x2) := by rw [hr.out, applyOf, if_pos (by rw [← hx2]; exact h1), hx2]
    replace hr1 := Lib.hid hr1
    replace hx2 := Lib.hid hx2
    unfold stepV
    go_enter Try.func6, Try.ntmps6
    go_wp2_with fail
    refine (check_eq hx (hv.out.below (below_alloc _ _))).mono ?_
    rintro e w1 ⟨rfl, hb1⟩
    go_wp2_with fail
    go_ret2
    rw [hr1.out]
    exact retApply_err _ _ _ h1 (below_step (below_alloc _ _) hb1)

end Go.Proofs.Ytgjcllbcfhpckaa

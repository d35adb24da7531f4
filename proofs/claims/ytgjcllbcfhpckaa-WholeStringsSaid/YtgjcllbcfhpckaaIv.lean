/- The contracts of step.Invert and step.Map at steps that replace and may be done. Conditions: the step may be done at the document. -/
import Derived.Test.YtgjcllbcfhpckaaDo
import Derived.Test.YtgjcllbcfhpckaaLt
namespace Go.Proofs.Ytgjcllbcfhpckaa
open Go.RowKit
set_option linter.unusedSimpArgs false

/-- a step and no error come back; its slice reads l -/
def RetStep (w : World) (f t : Int) (l : List Tok) (e : Ending) (w' : World) : Prop :=
  ∃ v, e = .returned (.tuple #[stepV f t v, .int .i64 0]) ∧ Below w.heap.size w w' ∧ IsToks w' v l

theorem isTokss_at1 {w : World} {A : Obj} {e : TypeId} {v1 : Value} {l1 : List Tok} (h1 : IsToks w v1 l1) (n : Nat) (hn : n = w.heap.size + 1) :
    IsTokss ((w.alloc A).alloc (.cells #[v1] e)) (.slice (some ⟨n, 0, none⟩) 1 1) [l1] := by subst hn; exact isTokss_new1 h1

theorem applyOf_ok {l s out : List Tok} {f t : Int} (h : applyOf l f t s = (out, 0)) : 0 ≤ f ∧ f ≤ t ∧ t ≤ l.length ∧ l.length ≤ 2048 ∧ s.length ≤ 2048 ∧ out = l.take f.toNat ++ s ++ l.drop t.toNat := by
  unfold applyOf at h
  split at h
  · rename_i h1; have := (Prod.mk.inj h).2; exact absurd this h1
  · rename_i h1
    split at h
    · rename_i h2; have := (Prod.mk.inj h).2; exact absurd this h2
    · rename_i h2
      split at h
      · have := (Prod.mk.inj h).2; omega
      · rename_i h3
        obtain ⟨a1, a2, _, a4, _⟩ := stepCheckOf_zero (show stepCheckOf f t s = 0 by simpa using h2)
        refine ⟨a1, a2, by omega, checkOf_zero (by simpa using h1), a4, ?_⟩
        simp only at h
        split at h
        · exact (Prod.mk.inj h).1.symm
        · split at h
          · have := (Prod.mk.inj h).2; omega
          · rename_i h5 _; exact absurd (Prod.mk.inj h).2 h5

theorem cells8 {w : World} {b : Nat} {x0 x1 x2 x3 x4 x5 x6 x7 : Value} {t : TypeId} (h : w.heap[b]? = some (.cells #[x0, x1, x2, x3, x4, x5, x6, x7] t (0, 0))) :
    w.cell? ⟨b, 0, none⟩ = some x0 ∧ w.cell? ⟨b, 1, none⟩ = some x1 ∧ w.cell? ⟨b, 2, none⟩ = some x2 ∧ w.cell? ⟨b, 3, none⟩ = some x3 ∧ w.cell? ⟨b, 4, none⟩ = some x4 ∧ w.cell? ⟨b, 5, none⟩ = some x5 ∧
    w.cell? ⟨b, 6, none⟩ = some x6 ∧ w.cell? ⟨b, 7, none⟩ = some x7 ∧ (∀ o, w.frozen? ⟨b, o, none⟩ = false) :=
  ⟨by rw [cell_of_heap h]; rfl, by rw [cell_of_heap h]; rfl, by rw [cell_of_heap h]; rfl, by rw [cell_of_heap h]; rfl, by rw [cell_of_heap h]; rfl, by rw [cell_of_heap h]; rfl, by rw [cell_of_heap h]; rfl, by rw [cell_of_heap h]; rfl, fun _ => frozen_of_heap h rfl⟩

theorem isToks_mid {w : World} {a : Option Addr} {l : List Tok} (h : ToksAt w a l) {f t : Nat} (hf : f ≤ t) (ht : t ≤ l.length) (hl : l.length ≤ 2048) :
    IsToks w (.slice (a.map (·.add (f * 4))) (t - f) (t - f)) ((l.drop f).take (t - f)) :=
  ⟨_, t - f, by rw [List.length_take, List.length_drop, Nat.min_eq_left (by omega)], by rw [List.length_take, List.length_drop]; omega, by simp [maxLen]; omega, (h.drop f).take _⟩

set_option maxRecDepth 100000 in
set_option maxHeartbeats 2000000 in
theorem invert_any (v sv : Value) (l s out : List Tok) (f t : Nat) (w : World) (hv : IsToks w v l) (hs : IsToks w sv s) (hok : applyOf l f t s = (out, 0)) :
    Calls Try.prog 7 #[v, stepV f t sv] w (RetStep w f ((f + s.length : Nat) : Int) ((l.drop f).take (t - f))) := by
  obtain ⟨_, hft, htl, hl2, hs2, _⟩ := applyOf_ok hok
  have hap := fun w' (hb : Below w.heap.size w w') => apply_any v sv l s f t w' (hv.below hb) (hs.below hb)
  rw [hok] at hap
  have hv' := hv
  have hs' := hs
  obtain ⟨a, c, rfl, hlc, hc, ht⟩ := hv'
  obtain ⟨a', c', rfl, hlc', hc', ht'⟩ := hs'
  have hmid := fun w' (hb : Below w.heap.size w w') => isToks_mid (ht.below hb) (f := f) (t := t) (by omega) (by omega) hl2
  unfold maxLen at hc hc'
  replace ht := Lib.hid ht; replace hv := Lib.hid hv; replace hs := Lib.hid hs; replace ht' := Lib.hid ht'; replace hap := Lib.hid hap; replace hmid := Lib.hid hmid
  have hft' : f ≤ t := by omega
  have htc : (t : Int) ≤ c := by omega
  unfold stepV
  go_enter Try.func7, Try.ntmps7
  go_wp2_with fail
  refine (hap.out _ ((below_alloc _ _).alloc (by simp) _)).mono ?_
  rintro e w1 ⟨v1, rfl, hb1, _, _, _⟩
  have hc1 := bcell hb1
  have hz1 : w.heap.size + 1 < w1.heap.size := by have := hb1.size; simp at this; omega
  have hz0 : w.heap.size < w1.heap.size := by omega
  have hbel1 : Below w.heap.size w w1 := below_step ((below_alloc _ _).alloc (by simp) _) hb1
  have hmid1 := hmid.out _ hbel1
  replace hmid1 := Lib.hid hmid1
  have hwrap : IntKind.i64.wrap ((f : Int) + (s.length : Int)) = (f : Int) + (s.length : Int) := IntWalk.i64_in _ (by omega)
  rcases Nat.lt_or_ge f t with hlt | hge
  · have hlt' : ¬ (t : Int) = f := by omega
    go_wp2_with fail
    refine (tokens_any _ [(l.drop f).take (t - f)] _ (isTokss_new1 hmid1.out) (by simp [lens]; omega)).mono ?_
    rintro e w2 ⟨g, rfl, hb2, hg, hh⟩
    have hh4 := (hb2.block (w.heap.size + 1) (by simp; omega)).trans ((heap_alloc_old (w1.alloc _) _ (by simp; omega)).trans ((heap_alloc_old w1 _ (by omega)).trans ((hb1.block (w.heap.size + 1) (by simp)).trans (heap_alloc_at _ _ (by simp)))))
    have hh8 := (hb2.block w1.heap.size (by simp; omega)).trans ((heap_alloc_old (w1.alloc _) _ (by simp)).trans (heap_alloc_new w1 _))
    obtain ⟨a0, a1, a2, a3, a4, a5, a6, a7, af⟩ := cells8 hh4
    obtain ⟨b0, b1, b2, b3, b4, b5, b6, b7, bf⟩ := cells8 hh8
    have hne : ¬ w1.heap.size = w.heap.size + 1 := by omega
    have hne' : ¬ w.heap.size + 1 = w1.heap.size := by omega
    clear hc1 hh4 hh8
    have hrow : ∀ w3, w3.heap[g]? = w2.heap[g]? → IsToks w3 (.slice (some ⟨g, 0, none⟩) ((l.drop f).take (t - f)).length ((l.drop f).take (t - f)).length) ((l.drop f).take (t - f)) := by
      intro w3 h3
      rw [hh] at h3
      have := isToks_row h3 (by simp [maxLen]; omega)
      simpa using this
    have hbel2 : Below w.heap.size w w2 := ((hbel1.alloc (by omega) _).alloc (by simp; omega) _).trans (hb2.mono (by simp; omega))
    have hg2 : w1.heap.size + 1 < g := by simp at hg; omega
    replace hbel2 := Lib.hid hbel2
    replace hrow := Lib.hid hrow
    go_wp2
    refine bodyPost_ret (v := .tuple #[stepV f ((f + s.length : Nat) : Int) (.slice (some ⟨g, 0, none⟩) ((l.drop f).take (t - f)).length ((l.drop f).take (t - f)).length), .int .i64 0]) ?_ rfl ⟨_, rfl, ?_, ?_⟩
    · simp [results, Try.results7, go_sem, stepV, a0, a1, a2, a3, a4, a5, a6, a7, b0, b1, b2, b3, b4, b5, b6, b7, hne, hne']
    · repeat' (first | (with_reducible exact hbel2.out) | (with_reducible refine Below.setCell ?_ ?_ _) | (simp; done) | (simp; omega))
    · refine hrow.out _ ?_
      repeat rw [Below.heap_setCell _ _ _ _ (by simp; omega)]
  · obtain rfl : f = t := by omega
    have hmid0 : IsToks w1 (.slice a 0 0) [] := isToks_empty _ _ _ (by simp [maxLen])
    go_wp2_with fail
    refine (tokens_any _ [[]] _ (isTokss_new1 hmid0) (by simp [lens])).mono ?_
    rintro e w2 ⟨g, rfl, hb2, hg, hh⟩
    have hh4 := (hb2.block (w.heap.size + 1) (by simp; omega)).trans ((heap_alloc_old (w1.alloc _) _ (by simp; omega)).trans ((heap_alloc_old w1 _ (by omega)).trans ((hb1.block (w.heap.size + 1) (by simp)).trans (heap_alloc_at _ _ (by simp)))))
    have hh8 := (hb2.block w1.heap.size (by simp; omega)).trans ((heap_alloc_old (w1.alloc _) _ (by simp)).trans (heap_alloc_new w1 _))
    obtain ⟨a0, a1, a2, a3, a4, a5, a6, a7, af⟩ := cells8 hh4
    obtain ⟨b0, b1, b2, b3, b4, b5, b6, b7, bf⟩ := cells8 hh8
    have hne : ¬ w1.heap.size = w.heap.size + 1 := by omega
    have hne' : ¬ w.heap.size + 1 = w1.heap.size := by omega
    clear hc1 hh4 hh8
    have hbel2 : Below w.heap.size w w2 := ((hbel1.alloc (by omega) _).alloc (by simp; omega) _).trans (hb2.mono (by simp; omega))
    replace hbel2 := Lib.hid hbel2
    go_wp2
    refine bodyPost_ret (v := .tuple #[stepV f ((f + s.length : Nat) : Int) (.slice (some ⟨g, 0, none⟩) 0 0), .int .i64 0]) ?_ rfl ⟨_, rfl, ?_, by rw [show (l.drop f).take (f - f) = [] from by simp]; exact isToks_empty _ _ 0 (by simp [maxLen])⟩
    · simp [results, Try.results7, go_sem, stepV, a0, a1, a2, a3, a4, a5, a6, a7, b0, b1, b2, b3, b4, b5, b6, b7, hne, hne']
    · repeat' (first | (with_reducible exact hbel2.out) | (with_reducible refine Below.setCell ?_ ?_ _) | (simp; done) | (simp; omega))

/-- one range and no error come back -/
def RetRange (w : World) (x y z : Int) (e : Ending) (w' : World) : Prop :=
  ∃ g c, e = .returned (.tuple #[.slice (some ⟨g, 0, none⟩) 1 c, .int .i64 0]) ∧ Below w.heap.size w w' ∧ w.heap.size ≤ g ∧ w'.heap[g]? = some (.cells #[.int .i64 x, .int .i64 y, .int .i64 z] 41 (0, 0))

set_option maxHeartbeats 2000000 in
theorem map_any (sv : Value) (s : List Tok) (f t : Nat) (w : World) (hs : IsToks w sv s) (hok : stepCheckOf f t s = 0) :
    Calls Try.prog 8 #[stepV f t sv] w (RetRange w f ((t : Int) - f) s.length) := by
  obtain ⟨_, hft, ht2, hs2, _⟩ := stepCheckOf_zero hok
  have hch := fun w' (hb : Below w.heap.size w w') => stepCheck_eq (y := 0) (Lib.hid hok.symm) (hs.below hb)
  obtain ⟨a', c', rfl, hlc', hc', ht'⟩ := hs
  unfold maxLen at hc'
  replace hch := Lib.hid hch; replace ht' := Lib.hid ht'
  clear hok
  unfold stepV
  go_enter Try.func8, Try.ntmps8
  go_wp2_with fail
  refine (hch.out _ (below_alloc _ _)).mono ?_
  rintro e w1 ⟨rfl, hb1⟩
  have hc1 := bcell hb1
  have hz0 : w.heap.size < w1.heap.size := by have := hb1.size; simp at this; omega
  have hnew := fun o => heap_alloc_new w1 o
  have hbel1 : Below w.heap.size w w1 := below_step (below_alloc _ _) hb1
  replace hnew := Lib.hid hnew; replace hbel1 := Lib.hid hbel1
  go_wp2
  go_ret2
  exact ⟨_, _, rfl, hbel1.out.alloc (by omega) _, by omega, hnew.out _⟩

end Go.Proofs.Ytgjcllbcfhpckaa

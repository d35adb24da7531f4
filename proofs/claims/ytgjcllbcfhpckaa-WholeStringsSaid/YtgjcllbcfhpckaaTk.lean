/- The contract of step.tokens: lists joined into an own one. Condition: together at most 1048576 tokens. -/
import Derived.Test.YtgjcllbcfhpckaaEm1
import Derived.Test.YtgjcllbcfhpckaaMk
namespace Go.Proofs.Ytgjcllbcfhpckaa
open Go.RowKit

/-- a slice of slices of tokens -/
def IsTokss (w : World) (v : Value) (L : List (List Tok)) : Prop :=
  ∃ a c vs, v = .slice a L.length c ∧ L.length ≤ c ∧ c ≤ maxLen ∧ vs.length = L.length ∧ Rd w a vs ∧ ∀ i (h : i < L.length) (h' : i < vs.length), IsToks w vs[i] L[i]

theorem isTokss_three {w : World} {g : Nat} {v1 v2 v3 : Value} {l1 l2 l3 : List Tok} (h : Rd w (some ⟨g, 0, none⟩) [v1, v2, v3]) (h1 : IsToks w v1 l1) (h2 : IsToks w v2 l2) (h3 : IsToks w v3 l3) :
    IsTokss w (.slice (some ⟨g, 0, none⟩) 3 3) [l1, l2, l3] :=
  ⟨_, _, _, rfl, by simp, by simp [maxLen], rfl, h, fun i h h' => by
    match i, h with
    | 0, _ => exact h1
    | 1, _ => exact h2
    | 2, _ => exact h3⟩
theorem isTokss_one {w : World} {g : Nat} {v1 : Value} {l1 : List Tok} (h : Rd w (some ⟨g, 0, none⟩) [v1]) (h1 : IsToks w v1 l1) :
    IsTokss w (.slice (some ⟨g, 0, none⟩) 1 1) [l1] :=
  ⟨_, _, _, rfl, by simp, by simp [maxLen], rfl, h, fun i h h' => by
    match i, h with
    | 0, _ => exact h1⟩

theorem isTokss_new3 {w : World} {A : Obj} {e : TypeId} {v1 v2 v3 : Value} {l1 l2 l3 : List Tok} (h1 : IsToks w v1 l1) (h2 : IsToks w v2 l2) (h3 : IsToks w v3 l3) :
    IsTokss ((w.alloc A).alloc (.cells #[v1, v2, v3] e)).drew (.slice (some ⟨w.heap.size + 1, 0, none⟩) 3 3) [l1, l2, l3] := by
  have hb : Below w.heap.size w ((w.alloc A).alloc (.cells #[v1, v2, v3] e)).drew := (((below_alloc w A).alloc (by simp) _).drew)
  have hr := (rd_new (w.alloc A) [v1, v2, v3] e).below (below_drew _)
  rw [show (w.alloc A).heap.size = w.heap.size + 1 from by simp] at hr
  exact isTokss_three hr (h1.below hb) (h2.below hb) (h3.below hb)
theorem isTokss_new1 {w : World} {A : Obj} {e : TypeId} {v1 : Value} {l1 : List Tok} (h1 : IsToks w v1 l1) :
    IsTokss ((w.alloc A).alloc (.cells #[v1] e)) (.slice (some ⟨w.heap.size + 1, 0, none⟩) 1 1) [l1] := by
  have hb : Below w.heap.size w ((w.alloc A).alloc (.cells #[v1] e)) := ((below_alloc w A).alloc (by simp) _)
  have hr := (rd_new (w.alloc A) [v1] e)
  rw [show (w.alloc A).heap.size = w.heap.size + 1 from by simp] at hr
  exact isTokss_one hr (h1.below hb)

def lens (L : List (List Tok)) : Nat := (L.map List.length).sum
theorem lens_flatten (L : List (List Tok)) : L.flatten.length = lens L := by simp [lens, List.length_flatten]
theorem lens_take_succ (L : List (List Tok)) (k : Nat) (h : k < L.length) : lens (L.take (k + 1)) = lens (L.take k) + L[k].length := by
  unfold lens; rw [List.take_succ_eq_append_getElem h, List.map_append, List.sum_append]; simp
theorem lens_take_le (L : List (List Tok)) (k : Nat) : lens (L.take k) ≤ lens L := by
  rw [← lens_flatten, ← lens_flatten]
  conv => rhs; rw [← List.take_append_drop k L, List.flatten_append, List.length_append]
  omega

/-- what comes back: an own row of tokens -/
def RetRow (w : World) (l : List Tok) (e : Ending) (w' : World) : Prop :=
  ∃ g, e = .returned (.slice (some ⟨g, 0, none⟩) l.length l.length) ∧ Below w.heap.size w w' ∧ w.heap.size ≤ g ∧ w'.heap[g]? = some (.cells (toks l).toArray 48 (0, 0))

theorem Try.infoTok : (Try.prog.info? 48).map (fun i => (i.zero, i.size, i.bytes)) = some (some (.agg #[.int .i64 0, .int .i64 0, .int .i64 0, .int .i64 0]), 4, 32) := by kernel_rfl

set_option maxHeartbeats 1000000 in
theorem tokens_any (v : Value) (L : List (List Tok)) (w : World) (hv : IsTokss w v L) (hlen : lens L ≤ 1048576) :
    Calls Try.prog 16 #[v] w (RetRow w L.flatten) := by
  obtain ⟨a, c, vs, rfl, hlc, hc, hvl, hrd, hvs⟩ := hv
  unfold maxLen at hc
  replace hvl := Lib.hid hvl; replace hrd := Lib.hid hrd; replace hvs := Lib.hid hvs
  go_enter Try.func16, Try.ntmps16
  go_wp2
  go_loop [3, 12] (fun n i => ∃ k : Nat, k ≤ L.length ∧ i = .int .i64 k ∧ n = .int .i64 (lens (L.take k))) (fun _ i => L.length - (intOf i).toNat)
  case atStart => exact ⟨0, by omega, rfl, rfl⟩
  case round =>
    obtain ⟨k, hk, rfl, rfl⟩ := hrel
    by_cases hlt : k < L.length
    · have h1 := hlt
      have h2 : k < vs.length := by rw [hvl.out]; exact hlt
      obtain ⟨ak, ck, hvk, hck, _, _⟩ := hvs.out k hlt h2
      have hcell : ∃ b off, a = some ⟨b, off, none⟩ ∧ w.cell? ⟨b, off + k, none⟩ = some vs[k] := by
        rcases hrd.out with h | ⟨b, off, ha, _, hr⟩
        · rw [h] at h2; simp at h2
        · exact ⟨b, off, ha, hr k _ (List.getElem?_eq_getElem h2)⟩
      obtain ⟨b, off, rfl, hcell⟩ := hcell
      rw [hvk] at hcell
      have hs := lens_take_succ L k h1
      have hle := lens_take_le L (k + 1)
      rw [hs] at hle
      replace hs := Lib.hid hs
      clear hvk
      go_wp2
      go_round
      case rel => exact ⟨k + 1, by omega, by go_num, by rw [hs.out]; go_num⟩
      case measure => simp [intOf]; omega
    · obtain rfl : k = L.length := by omega
      rw [List.take_length]
      have htot : ((lens L : Nat) : Int) ≤ 1048576 := by omega
      obtain ⟨i0, hi, hz0, hz1, hz2⟩ := info_parts Try.infoTok
      replace hi := Lib.hid hi; replace hz0 := Lib.hid hz0; replace hz1 := Lib.hid hz1; replace hz2 := Lib.hid hz2
      go_wp2_with (with_reducible refine wpList_make_S _ rfl (.tmp 21) (.tmp 21) 24 rfl 48 i0 _ 4 Try.underlying24 hi.out hz0.out hz1.out .i64 .i64 _ _ (lens L) rfl rfl rfl rfl ?b2 ?b3 ?_)
      case b2 => rw [hz2.out]; omega
      case b3 => unfold maxLen; omega
      intro w1 cur0 _ hcur0 hrow hgr
      have hbel0 : Below w.heap.size w w1 := (Below.refl _ _).grown hgr (Nat.le_refl _) (fun k h => by cases h)
      have hinf : (Try.prog.info? 48).map (·.size) = some 4 := by kernel_rfl
      replace hinf := Lib.hid hinf
      go_wp2
      go_loopw [7, 25] (fun p i wr => ∃ k : Nat, k ≤ L.length ∧ i = .int .i64 k ∧ p = .int .i64 (lens (L.take k)) ∧ Below w.heap.size w wr ∧
        ∃ cur : List Value, Hid (wr.heap[w.heap.size]? = some (.cells cur.toArray 48 (0, 0)) ∧ cur.length = lens L * 4 ∧ cur.take (lens (L.take k) * 4) = toks (L.take k).flatten)) (fun _ i _ => L.length - (intOf i).toNat)
      case atStart =>
        refine ⟨0, by omega, rfl, rfl, hbel0, cur0, Lib.hid ⟨hrow.out, hcur0.out, ?_⟩⟩
        · simp [lens, toks]
      case round =>
        obtain ⟨k, hk, rfl, rfl, hbel, cur, hcur⟩ := hrel
        by_cases hlt : k < L.length
        · have h2 : k < vs.length := by rw [hvl.out]; exact hlt
          obtain ⟨ak, ck, hvk, hck, hcm, hrk⟩ := hvs.out k hlt h2
          obtain ⟨b, off, rfl, hb, hcell⟩ : ∃ b off, a = some ⟨b, off, none⟩ ∧ b < w.heap.size ∧ w.cell? ⟨b, off + k, none⟩ = some vs[k] := by
            rcases hrd.out with h | ⟨b, off, ha, hb, hr⟩
            · rw [h] at h2; simp at h2
            · exact ⟨b, off, ha, hb, hr k _ (List.getElem?_eq_getElem h2)⟩
          rw [hvk] at hcell
          have hcell := (hbel.cell (p := ⟨b, off + k, none⟩) hb).trans hcell
          have hs := lens_take_succ L k hlt
          have hle := lens_take_le L (k + 1)
          rw [hs] at hle
          have hrk1 : Rd wr ak (toks L[k]) := by
            rcases hrk.rd with h | ⟨b, off, ha, hb, hr⟩
            · exact .inl h
            · exact .inr ⟨b, off, ha, Nat.lt_of_lt_of_le hb hbel.size, fun j v hv => by rw [hbel.cell (p := ⟨b, off + j, none⟩) hb]; exact hr j v hv⟩
          have hnext : (splice cur (lens (L.take k) * 4) (toks L[k])).length = lens L * 4 ∧ (splice cur (lens (L.take k) * 4) (toks L[k])).take (lens (L.take (k + 1)) * 4) = toks (L.take (k + 1)).flatten := by
            obtain ⟨_, hcl, hct⟩ := hcur.out
            have hlk := toks_length L[k]
            refine ⟨?_, ?_⟩
            · rw [length_splice _ _ _ (by omega), hcl]
            · rw [hs, List.take_succ_eq_append_getElem hlt, List.flatten_append, toks_append]
              simp only [List.flatten_cons, List.flatten_nil, List.append_nil]
              rw [← hct, splice, ← List.append_assoc, List.take_append_of_le_length (by simp; omega), List.take_of_length_le (by simp; omega)]
          replace hs := Lib.hid hs
          replace hnext := Lib.hid hnext
          clear hvk
          obtain ⟨x, hx⟩ : ∃ x, x = L[k] := ⟨_, rfl⟩
          rw [← hx] at hcell hck hle hrk1 hnext hs
          obtain ⟨p, hp⟩ : ∃ p, p = lens (L.take k) := ⟨_, rfl⟩
          rw [← hp] at hle hnext hs hcur ⊢
          replace hx := Lib.hid hx; replace hp := Lib.hid hp; replace hrk1 := Lib.hid hrk1
          have hmin : Nat.min x.length (lens L - p) = x.length := Nat.min_eq_left (by omega)
          replace hmin := Lib.hid hmin
          have hrow1 := hcur.out.1
          have hcl := hcur.out.2.1
          replace hrow1 := Lib.hid hrow1
          replace hcl := Lib.hid hcl
          have hsz := hbel.size
          rcases Nat.lt_or_ge p (lens L) with hpl | hpl
          · go_wp2_with (with_reducible refine wpList_copy_S _ rfl (.tmp 32) (.tmp 33) 24 24 rfl 48 4 Try.underlying24 hinf.out _ _ _ _ _ _ rfl rfl w.heap.size (p * 4) cur 48 hrow1.out (toks x) x.length ?_ (toks_length x) ?_ hrk1.out ?_ (toks_one x) w.heap.size w hbel (Nat.le_refl _) ?_)
            case refine_1 => exact hmin.out
            case refine_3 => rw [toks_length, hcl.out]; omega
            intro w2 hg2 hgr2 hb2
            go_wp2
            go_roundw
            case rel => exact ⟨k + 1, by omega, by go_num, by rw [hs.out]; go_num, hb2, _, Lib.hid ⟨hg2.out, hnext.out⟩⟩
            case measure => simp [intOf]; omega
          · obtain rfl : p = lens L := by omega
            go_wp2_with (with_reducible refine wpList_copy_S _ rfl (.tmp 32) (.tmp 33) 24 24 rfl 48 4 Try.underlying24 hinf.out _ _ _ _ _ _ rfl rfl w.heap.size (lens L * 4) cur 48 hrow1.out (toks x) x.length ?_ (toks_length x) ?_ hrk1.out ?_ (toks_one x) w.heap.size w hbel (Nat.le_refl _) ?_)
            case refine_1 => simpa using hmin.out
            case refine_3 => rw [toks_length, hcl.out]; omega
            case refine_2 => intro h; rw [toks_length] at h; omega
            intro w2 hg2 hgr2 hb2
            go_wp2
            go_roundw
            case rel => exact ⟨k + 1, by omega, by go_num, by rw [hs.out]; go_num, hb2, _, Lib.hid ⟨hg2.out, hnext.out⟩⟩
            case measure => simp [intOf]; omega
        · obtain rfl : k = L.length := by omega
          obtain ⟨hc1, hc2, hc3⟩ := hcur.out
          rw [List.take_length] at hc3
          rw [List.take_of_length_le (by omega)] at hc3
          subst hc3
          go_wp2
          go_ret
          exact ⟨_, by rw [lens_flatten]; rfl, hbel, Nat.le_refl _, hc1⟩

end Go.Proofs.Ytgjcllbcfhpckaa

/- The contracts of letters, within, paras, alike. Conditions: texts of at most 2^20 letters together. -/
import Derived.Test.YtgjcllbcfhpckaaTk
namespace Go.Proofs.Ytgjcllbcfhpckaa
open Go.RowKit

/-- an own slice of tokens comes back -/
def RetOwn (w : World) (l : List Tok) (e : Ending) (w' : World) : Prop :=
  ∃ a c, e = .returned (.slice a l.length c) ∧ Below w.heap.size w w' ∧ Own w' w.heap.size 48 4 a l.length c (toks l)

def lets (s : List UInt8) (m : Int) : List Tok := s.map fun b => ⟨0, 0, b.toNat, m⟩
theorem lets_length (s : List UInt8) (m : Int) : (lets s m).length = s.length := by simp [lets]

theorem src_tok (w : World) (t : Tok) : Src Try.prog 4 24 (.slice (some ⟨w.heap.size, 0, none⟩) 1 1) 1 t.cs (w.alloc (.cells #[.int .i64 t.k, .int .i64 t.t, .int .i64 t.n, .int .i64 t.m] 48)) :=
  Src.ofRd _ Try.underlying24 rfl (rd_new w t.cs 48) (by intro u hu; simp [Tok.cs] at hu; rcases hu with rfl | rfl | rfl | rfl <;> rfl)

theorem toks_snoc (l : List Tok) (t : Tok) : toks l ++ t.cs = toks (l ++ [t]) := by rw [toks_append]; simp [toks]
theorem lets_snoc (s : List UInt8) (m : Int) (k : Nat) (h : k < s.length) : lets (s.take k) m ++ [⟨0, 0, s[k].toNat, m⟩] = lets (s.take (k + 1)) m := by
  rw [List.take_succ_eq_append_getElem h]; simp only [lets, List.map_append, List.map_cons, List.map_nil]
theorem lets_take_length (s : List UInt8) (m : Int) (k : Nat) (h : k ≤ s.length) : (lets (s.take k) m).length = k := by rw [lets_length, List.length_take, Nat.min_eq_left h]

set_option maxHeartbeats 1000000 in
theorem letters_any (s : ByteArray) (m : Int) (w : World) (hs : s.size ≤ 1048576) :
    Calls Try.prog 5 #[.string s, .int .i64 m] w (RetOwn w (lets s.data.toList m)) := by
  obtain ⟨i0, hi, hz0, hz1, hz2⟩ := info_parts Try.infoTok
  replace hi := Lib.hid hi; replace hz0 := Lib.hid hz0; replace hz1 := Lib.hid hz1; replace hz2 := Lib.hid hz2
  have hsz : s.data.toList.length = s.size := rfl
  replace hsz := Lib.hid hsz
  go_enter Try.func5, Try.ntmps5
  go_wp2
  go_loopw [5, 6] (fun v i wr => ∃ (k : Nat) (a : Option Addr) (c : Nat), k ≤ s.size ∧ i = .int .i64 k ∧ v = .slice a k c ∧ Own wr w.heap.size 48 4 a k c (toks (lets (s.data.toList.take k) m)) ∧ Below w.heap.size w wr) (fun _ i _ => s.size - (intOf i).toNat)
  case atStart => exact ⟨0, none, 0, by omega, rfl, rfl, Own.nil _ _ _ _, Below.refl _ _⟩
  case round =>
    obtain ⟨k, a, c, hk, rfl, rfl, hown, hbel⟩ := hrel
    by_cases hlt : k < s.size
    · have hown' := fun o => hown.below (below_alloc wr o)
      have hsrc := src_tok wr ⟨0, 0, (s[k]'hlt).toNat, m⟩
      have hs8 := (s[k]'hlt).toNat_lt
      have hbs := hbel.size
      have hnext : toks (lets (s.data.toList.take k) m) ++ (⟨0, 0, (s[k]'hlt).toNat, m⟩ : Tok).cs = toks (lets (s.data.toList.take (k + 1)) m) := by
        rw [toks_snoc, ← lets_snoc _ _ k (by rw [hsz.out]; exact hlt)]; rfl
      replace hown' := Lib.hid hown'; replace hsrc := Lib.hid hsrc; replace hnext := Lib.hid hnext
      go_wp2_with (at_builtin; (with_reducible refine wpList_append_S _ rfl (.tmp 13) (.tmp 20) 24 24 rfl w.heap.size 48 i0 _ 4 32 Try.underlying24 hi.out hz0.out hz1.out hz2.out rfl a k c _ rfl (hown'.out _) (.slice (some ⟨wr.heap.size, 0, none⟩) 1 1) 1 _ rfl hsrc.out ?_ ?_ ?_ ?_))
      case refine_1 => unfold maxLen; omega
      case refine_2 => omega
      case refine_3 => omega
      intro a' c' w' hown1 hgr _ _
      rw [hnext.out] at hown1
      have hbel' : Below w.heap.size w w' := (hbel.alloc hbs _).grown hgr (by simp; omega) (fun g hg => hown.base_le hg)
      clear hgr hown' hsrc hown
      replace hown1 := Lib.hid hown1
      go_wp2
      go_roundw
      case rel => exact ⟨k + 1, a', c', by omega, by go_num, rfl, hown1.out, hbel'⟩
      case measure => simp [intOf]; omega
    · obtain rfl : k = s.size := by omega
      go_wp2
      go_ret
      refine ⟨a, c, by rw [lets_length]; rfl, hbel, ?_⟩
      rw [lets_length, hsz.out]
      rwa [List.take_of_length_le (by rw [hsz.out]; exact Nat.le_refl _)] at hown

theorem RetOwn.isToks {w w' : World} {l : List Tok} {a : Option Addr} {c : Nat} (h : Own w' w.heap.size 48 4 a l.length c (toks l)) : IsToks w' (.slice a l.length c) l :=
  ⟨a, c, rfl, h.2.1, h.2.2.1, h.rd.toks⟩

theorem src_toks {w : World} {a : Option Addr} {c : Nat} {l : List Tok} (h : Rd w a (toks l)) : Src Try.prog 4 24 (.slice a l.length c) l.length (toks l) w :=
  Src.ofRd _ Try.underlying24 (toks_length l) h (toks_one l)

theorem own_newTok (w : World) (t : Tok) : Own (w.alloc (.cells #[.int .i64 t.k, .int .i64 t.t, .int .i64 t.n, .int .i64 t.m] 48)) w.heap.size 48 4 (some ⟨w.heap.size, 0, none⟩) 1 1 (toks [t]) :=
  ⟨rfl, Nat.le_refl _, by simp [maxLen], .inr ⟨w.heap.size, 0, _, rfl, Nat.le_refl _, heap_alloc_new _ _, by simp, rfl⟩⟩

/-- tokens in an element -/
def elem (t n : Int) (l : List Tok) : List Tok := ⟨1, t, n, 0⟩ :: l ++ [⟨2, 0, 0, 0⟩]
theorem elem_length (t n : Int) (l : List Tok) : (elem t n l).length = 1 + l.length + 1 := by simp [elem]; omega

set_option maxHeartbeats 1000000 in
theorem within_any (t n : Int) (a : Option Addr) (c : Nat) (l : List Tok) (w : World) (hl : Rd w a (toks l)) (hlen : l.length ≤ 1048576) :
    Calls Try.prog 12 #[.int .i64 t, .int .i64 n, .slice a l.length c] w (RetOwn w (elem t n l)) := by
  obtain ⟨i0, hi, hz0, hz1, hz2⟩ := info_parts Try.infoTok
  replace hi := Lib.hid hi; replace hz0 := Lib.hid hz0; replace hz1 := Lib.hid hz1; replace hz2 := Lib.hid hz2
  have h1 := own_newTok w ⟨1, t, n, 0⟩
  have hsrc := src_toks (c := c) (hl.below (below_alloc w (.cells #[.int .i64 1, .int .i64 t, .int .i64 n, .int .i64 0] 48)))
  replace h1 := Lib.hid h1; replace hsrc := Lib.hid hsrc
  go_enter Try.func12, Try.ntmps12
  go_wp2_with (at_builtin; (with_reducible refine wpList_append_S _ rfl (.tmp 11) (.tmp 12) 24 24 rfl w.heap.size 48 i0 _ 4 32 Try.underlying24 hi.out hz0.out hz1.out hz2.out rfl _ 1 1 _ rfl h1.out (.slice a l.length c) l.length _ rfl hsrc.out ?b1 ?b2 ?b3 ?b4))
  case b1 => unfold maxLen; omega
  case b2 => omega
  intro a1 c1 w1 hown1 hgr1 _ _
  have hbel1 : Below w.heap.size w w1 := (below_alloc w _).grown hgr1 (by simp) (fun g hg => by have := hg; simp [blk] at this; omega)
  have hsz1 := hbel1.size
  have hown1' := fun o => hown1.below (below_alloc w1 o)
  have hbl := fun g (hg : blk a1 = some g) => hown1.base_le hg
  have hsrc2 := src_tok w1 ⟨2, 0, 0, 0⟩
  clear hgr1 hown1 h1 hsrc
  replace hown1' := Lib.hid hown1'; replace hsrc2 := Lib.hid hsrc2; replace hbl := Lib.hid hbl
  go_wp2_with (at_builtin; (with_reducible refine wpList_append_S _ rfl (.tmp 14) (.tmp 16) 24 24 rfl w.heap.size 48 i0 _ 4 32 Try.underlying24 hi.out hz0.out hz1.out hz2.out rfl a1 (1 + l.length) c1 _ rfl (hown1'.out _) (.slice (some ⟨w1.heap.size, 0, none⟩) 1 1) 1 _ rfl hsrc2.out ?d1 ?d2 ?d3 ?d4))
  case d1 => unfold maxLen; omega
  case d2 => omega
  case d3 => omega
  intro a2 c2 w2 hown2 hgr2 _ _
  have hbel2 : Below w.heap.size w w2 := (hbel1.alloc hsz1 _).grown hgr2 (by simp; omega) (fun g hg => hbl.out g hg)
  clear hgr2
  replace hown2 := Lib.hid hown2
  go_wp2
  go_ret
  refine ⟨a2, c2, by rw [elem_length]; rfl, hbel2, ?_⟩
  have := hown2.out
  rw [toks_snoc, ← toks_append] at this
  rw [elem_length]
  exact this

theorem RetOwn.drewN {w w' : World} {l : List Tok} {e : Ending} {n : Nat} (h : RetOwn (w.drewN n) l e w') : RetOwn w l e w' := by
  obtain ⟨a, c, he, hb, ho⟩ := h
  exact ⟨a, c, he, ⟨hb.os, hb.tape, hb.output, hb.size, hb.block⟩, ho⟩

set_option maxHeartbeats 1000000 in
/-- alike, where both slices read the same tokens -/
theorem alike_any (v1 v2 : Value) (l : List Tok) (w : World) (h1 : IsToks w v1 l) (h2 : IsToks w v2 l) :
    Calls Try.prog 9 #[v1, v2] w fun e w' => e = .returned (.bool true) ∧ Below w.heap.size w w' := by
  obtain ⟨a1, c1, rfl, hl1, hc1, t1⟩ := h1
  obtain ⟨a2, c2, rfl, hl2, hc2, t2⟩ := h2
  unfold maxLen at hc1 hc2
  replace t1 := Lib.hid t1; replace t2 := Lib.hid t2
  go_enter Try.func9, Try.ntmps9
  go_wp2
  go_loopw [5] (fun i wr => ∃ k : Nat, k ≤ l.length ∧ i = .int .i64 k ∧ Below w.heap.size w wr) (fun i _ => l.length - (intOf i).toNat)
  case atStart => exact ⟨0, by omega, rfl, Below.refl _ _⟩
  case round =>
    obtain ⟨k, hk, rfl, hbel⟩ := hrel
    by_cases hlt : k < l.length
    · obtain ⟨b1, o1, rfl, hb1, r1⟩ : ∃ b off, a1 = some ⟨b, off, none⟩ ∧ b < w.heap.size ∧ w.rangeAt b off (toks l) := by
        rcases t1.out with h | h
        · rw [h] at hlt; simp at hlt
        · exact h
      obtain ⟨b2, o2, rfl, hb2, r2⟩ : ∃ b off, a2 = some ⟨b, off, none⟩ ∧ b < w.heap.size ∧ w.rangeAt b off (toks l) := by
        rcases t2.out with h | h
        · rw [h] at hlt; simp at hlt
        · exact h
      obtain ⟨g0, g1, g2, g3⟩ := tok_cells r1 k hlt
      obtain ⟨f0, f1, f2, f3⟩ := tok_cells r2 k hlt
      have e0 := (hbel.cell (p := ⟨b1, o1 + k * 4, none⟩) hb1).trans g0
      have e1 := (hbel.cell (p := ⟨b1, o1 + k * 4 + 1, none⟩) hb1).trans g1
      have e2 := (hbel.cell (p := ⟨b1, o1 + k * 4 + 2, none⟩) hb1).trans g2
      have e3 := (hbel.cell (p := ⟨b1, o1 + k * 4 + 3, none⟩) hb1).trans g3
      have d0 := (hbel.cell (p := ⟨b2, o2 + k * 4, none⟩) hb2).trans f0
      have d1 := (hbel.cell (p := ⟨b2, o2 + k * 4 + 1, none⟩) hb2).trans f1
      have d2 := (hbel.cell (p := ⟨b2, o2 + k * 4 + 2, none⟩) hb2).trans f2
      have d3 := (hbel.cell (p := ⟨b2, o2 + k * 4 + 3, none⟩) hb2).trans f3
      clear g0 g1 g2 g3 f0 f1 f2 f3 r1 r2 t1 t2
      obtain ⟨x, hx⟩ : ∃ x, x = l[k] := ⟨_, rfl⟩
      rw [← hx] at e0 e1 e2 e3 d0 d1 d2 d3
      clear hx
      have i1 : (k : Int) < (l.length : Int) := by omega
      have i2 : (0 : Int) ≤ (k : Int) := by omega
      go_wp2
      go_quiet (fail)
      go_wp2
      go_roundw
      case rel => exact ⟨k + 1, by omega, by go_num, below_drewN hbel _⟩
      case measure => simp [intOf]; omega
    · obtain rfl : k = l.length := by omega
      go_wp2
      go_ret
      exact ⟨rfl, hbel⟩

def paraToks (ss : List ByteArray) : List Tok := ss.flatMap fun s => elem 1 0 (lets s.data.toList 0)
def paraLen (ss : List ByteArray) : Nat := (ss.map fun s => s.size + 2).sum
theorem paraToks_length (ss : List ByteArray) : (paraToks ss).length = paraLen ss := by
  induction ss with
  | nil => rfl
  | cons s ss ih =>
    simp only [paraToks, paraLen, List.flatMap_cons, List.length_append, List.map_cons, List.sum_cons] at ih ⊢
    rw [ih, elem_length, lets_length]
    have : s.data.toList.length = s.size := rfl
    omega
theorem paraToks_snoc (ss : List ByteArray) (k : Nat) (h : k < ss.length) : paraToks (ss.take (k + 1)) = paraToks (ss.take k) ++ elem 1 0 (lets ss[k].data.toList 0) := by
  rw [List.take_succ_eq_append_getElem h]; simp only [paraToks, List.flatMap_append, List.flatMap_cons, List.flatMap_nil, List.append_nil]
theorem paraLen_snoc (ss : List ByteArray) (k : Nat) (h : k < ss.length) : paraLen (ss.take (k + 1)) = paraLen (ss.take k) + (1 + ss[k].size + 1) := by
  unfold paraLen
  rw [List.take_succ_eq_append_getElem h, List.map_append, List.sum_append]; simp; omega
theorem paraLen_le (ss : List ByteArray) (k : Nat) : paraLen (ss.take k) ≤ paraLen ss := by
  conv => rhs; rw [← List.take_append_drop k ss]
  unfold paraLen
  rw [List.map_append, List.sum_append]; omega

set_option maxHeartbeats 1000000 in
theorem paras_any (ss : List ByteArray) (a : Option Addr) (c : Nat) (w : World) (hr : Rd w a (ss.map Value.string)) (hlc : ss.length ≤ c) (hc : c ≤ 1048576) (hlen : paraLen ss ≤ 1048576) :
    Calls Try.prog 4 #[.slice a ss.length c] w (RetOwn w (paraToks ss)) := by
  obtain ⟨i0, hi, hz0, hz1, hz2⟩ := info_parts Try.infoTok
  replace hi := Lib.hid hi; replace hz0 := Lib.hid hz0; replace hz1 := Lib.hid hz1; replace hz2 := Lib.hid hz2
  replace hr := Lib.hid hr
  go_enter Try.func4, Try.ntmps4
  go_wp2
  go_loopw [3, 8] (fun v i wr => ∃ (k : Nat) (ao : Option Addr) (co : Nat), k ≤ ss.length ∧ i = .int .i64 k ∧ v = .slice ao (paraLen (ss.take k)) co ∧
    Own wr w.heap.size 48 4 ao (paraLen (ss.take k)) co (toks (paraToks (ss.take k))) ∧ Below w.heap.size w wr) (fun _ i _ => ss.length - (intOf i).toNat)
  case atStart => exact ⟨0, none, 0, by omega, rfl, rfl, Own.nil _ _ _ _, Below.refl _ _⟩
  case round =>
    obtain ⟨k, ao, co, hk, rfl, rfl, hown, hbel⟩ := hrel
    by_cases hlt : k < ss.length
    · obtain ⟨b, off, rfl, hb, hcell⟩ : ∃ b off, a = some ⟨b, off, none⟩ ∧ b < w.heap.size ∧ w.cell? ⟨b, off + k, none⟩ = some (.string ss[k]) := by
        rcases hr.out with h | ⟨b, off, ha, hb, h⟩
        · have := congrArg List.length h; simp at this; rw [this] at hlt; simp at hlt
        · exact ⟨b, off, ha, hb, h k _ (by simp [hlt])⟩
      have e0 := (hbel.cell (p := ⟨b, off + k, none⟩) hb).trans hcell
      have hsn := paraToks_snoc ss k hlt
      have hln := paraLen_snoc ss k hlt
      have hle := paraLen_le ss (k + 1)
      obtain ⟨s, hs⟩ : ∃ s, s = ss[k] := ⟨_, rfl⟩
      rw [← hs] at e0 hsn hln
      have hs20 : s.size ≤ 1048576 := by omega
      have hdl : (lets s.data.toList 0).length = s.size := by rw [lets_length]; rfl
      obtain ⟨p, hp⟩ : ∃ p, p = paraLen (ss.take k) := ⟨_, rfl⟩
      have hpl : p + (1 + s.size + 1) ≤ 1048576 := by omega
      rw [← hp] at hown hln ⊢
      obtain ⟨p', hp'⟩ : ∃ p', p' = paraLen (ss.take (k + 1)) := ⟨_, rfl⟩
      rw [← hp'] at hln
      replace hsn := Lib.hid hsn; replace hs := Lib.hid hs; replace hp := Lib.hid hp; replace hp' := Lib.hid hp'; replace hdl := Lib.hid hdl; replace hln := Lib.hid hln
      clear hcell
      have hbs := hbel.size
      go_wp2_with fail
      refine (letters_any s 0 _ hs20).mono ?_
      rintro e w1 ⟨a1, c1, rfl, hb1, ho1⟩
      have hwi := within_any 1 0 a1 c1 (lets s.data.toList 0) w1 ho1.rd (by rw [hdl.out]; exact hs20)
      rw [hdl.out] at hwi
      rw [hdl.out]
      have hbel1 := hbel.trans (hb1.mono hbs)
      have hbs1 := hb1.size
      have hown1 := hown.below hb1
      clear ho1
      replace hwi := Lib.hid hwi; replace hown1 := Lib.hid hown1
      go_wp2_with fail
      refine hwi.out.mono ?_
      rintro e w2 ⟨a2, c2, rfl, hb2, ho2⟩
      have hel : (elem 1 0 (lets s.data.toList 0)).length = 1 + s.size + 1 := by rw [elem_length, hdl.out]
      have hown2 := hown1.out.below hb2
      have hbel2 := hbel1.trans (hb2.mono (by omega))
      have hbs2 := hb2.size
      have hsrc := src_toks (c := c2) ho2.rd
      rw [hel] at hsrc ⊢
      clear ho2
      replace hsrc := Lib.hid hsrc; replace hown2 := Lib.hid hown2; replace hel := Lib.hid hel
      go_wp2_with (at_builtin; (with_reducible refine wpList_append_S _ rfl (.tmp 12) (.tmp 15) 24 24 rfl w.heap.size 48 i0 _ 4 32 Try.underlying24 hi.out hz0.out hz1.out hz2.out rfl ao p co _ rfl hown2.out (.slice a2 (1 + s.size + 1) c2) (1 + s.size + 1) _ rfl hsrc.out ?b1 ?b2 ?b3 ?b4))
      case b1 => unfold maxLen; omega
      case b2 => omega
      case b3 => omega
      intro a3 c3 w3 hown3 hgr3 _ _
      have hbel3 : Below w.heap.size w w3 := hbel2.grown hgr3 (by omega) (fun g hg => hown2.out.base_le hg)
      rw [← toks_append, ← hsn.out, ← hln.out] at hown3
      rw [← hln.out]
      clear hgr3
      replace hown3 := Lib.hid hown3
      go_wp2
      go_roundw
      case rel => exact ⟨k + 1, a3, c3, by omega, by go_num, by rw [hp'.out], by rw [← hp'.out]; exact hown3.out, hbel3⟩
      case measure => simp [intOf]; omega
    · obtain rfl : k = ss.length := by omega
      rw [List.take_length] at hown ⊢
      go_wp2
      go_ret
      exact ⟨ao, co, by rw [paraToks_length]; rfl, hbel, by rw [paraToks_length]; exact hown⟩

end Go.Proofs.Ytgjcllbcfhpckaa

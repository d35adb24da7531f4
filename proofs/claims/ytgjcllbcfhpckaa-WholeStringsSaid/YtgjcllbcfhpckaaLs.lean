/- The law WholeStrings. No condition. -/
import Derived.Test.YtgjcllbcfhpckaaLd0s
import Derived.Test.YtgjcllbcfhpckaaPl
import Derived.Test.YtgjcllbcfhpckaaAw
import Derived.Deep.DeepCutAuto
import Derived.Deep.CutBlock
namespace Go.Proofs.Ytgjcllbcfhpckaa
open Go.RowKit

theorem paras_one (s : List UInt8) (w : World) (hl : s.length ≤ 1000) :
    Calls Try.prog 4 #[.slice (some ⟨w.heap.size, 0, none⟩) 1 1] (w.alloc (.cells #[.string ⟨s.toArray⟩] 9)) fun e w' => ∃ v, e = .returned v ∧ Below w.heap.size w w' ∧ IsToks w' v (para s) := by
  have hsz : (⟨s.toArray⟩ : ByteArray).size = s.length := rfl
  refine (paras_any [⟨s.toArray⟩] _ 1 _ (rd_new w [.string ⟨s.toArray⟩] 9) (Nat.le_refl _) (by omega) (by simp [paraLen, hsz]; omega)).mono ?_
  rintro e w1 ⟨a, c, rfl, hb, ho⟩
  rw [paraToks_one] at ho ⊢
  exact ⟨_, rfl, below_step (below_alloc w _) hb, RetOwn.isToks ho⟩

theorem letters_one (r : List UInt8) (w : World) (hl : r.length ≤ 1000) :
    Calls Try.prog 5 #[.string ⟨r.toArray⟩, .int .i64 0] w fun e w' => ∃ a c, e = .returned (.slice a r.length c) ∧ Below w.heap.size w w' ∧ IsToks w' (.slice a r.length c) (lets r 0) := by
  have hsz : (⟨r.toArray⟩ : ByteArray).size = r.length := rfl
  refine (letters_any ⟨r.toArray⟩ 0 w (by omega)).mono ?_
  rintro e w1 ⟨a, c, rfl, hb, ho⟩
  have := RetOwn.isToks ho
  rw [lets_length] at this ⊢
  exact ⟨a, c, rfl, hb, this⟩

theorem apply_one (v sv : Value) (l s out : List Tok) (f t : Int) (w : World) (hv : IsToks w v l) (hs : IsToks w sv s) (hok : applyOf l f t s = (out, 0)) :
    Calls Try.prog 6 #[v, .agg #[.int .i64 0, .int .i64 f, .int .i64 t, .int .i64 0, .int .i64 0, .int .i64 0, sv, .int .i64 0]] w fun e w' => ∃ v', e = .returned (.tuple #[v', .int .i64 0]) ∧ Below w.heap.size w w' ∧ IsToks w' v' out := by
  have := apply_any v sv l s f t w hv hs
  rw [hok] at this
  exact this.mono fun e w' ⟨v', he, hb, hi, _, _⟩ => ⟨v', he, hb, hi⟩

theorem invert_one (v sv : Value) (l s out m : List Tok) (f t n : Nat) (w : World) (hv : IsToks w v l) (hs : IsToks w sv s) (hok : applyOf l f t s = (out, 0)) (hm : (l.drop f).take (t - f) = m) (hn : s.length = n) :
    Calls Try.prog 7 #[v, .agg #[.int .i64 0, .int .i64 f, .int .i64 t, .int .i64 0, .int .i64 0, .int .i64 0, sv, .int .i64 0]] w fun e w' => ∃ a c, e = .returned (.tuple #[.agg #[.int .i64 0, .int .i64 f, .int .i64 ((f : Int) + n), .int .i64 0, .int .i64 0, .int .i64 0, .slice a m.length c, .int .i64 0], .int .i64 0]) ∧ Below w.heap.size w w' ∧ IsToks w' (.slice a m.length c) m := by
  subst hm hn
  refine (invert_any v sv l s out f t w hv hs hok).mono ?_
  rintro e w' ⟨_, rfl, hb, a, c, rfl, h1, h2, h3⟩
  exact ⟨a, c, rfl, hb, a, c, rfl, h1, h2, h3⟩

theorem map_one (sv : Value) (s : List Tok) (f t n : Nat) (w : World) (hs : IsToks w sv s) (hok : stepCheckOf f t s = 0) (hn : s.length = n) :
    Calls Try.prog 8 #[.agg #[.int .i64 0, .int .i64 f, .int .i64 t, .int .i64 0, .int .i64 0, .int .i64 0, sv, .int .i64 0]] w (RetRange w f ((t : Int) - f) n) := by
  subst hn; exact map_any sv s f t w hs hok

theorem cells8_ex {w : World} {b : Nat} {x0 x1 x2 x3 x4 x5 x6 x7 : Value} {t : TypeId} (h : w.heap[b]? = some (.cells #[x0, x1, x2, x3, x4, x5, x6, x7] t (0, 0))) :
    w.cell? ⟨b, 0, none⟩ = some x0 ∧ w.cell? ⟨b, 1, none⟩ = some x1 ∧ w.cell? ⟨b, 2, none⟩ = some x2 ∧ w.cell? ⟨b, 3, none⟩ = some x3 ∧ w.cell? ⟨b, 4, none⟩ = some x4 ∧ w.cell? ⟨b, 5, none⟩ = some x5 ∧
    w.cell? ⟨b, 6, none⟩ = some x6 ∧ w.cell? ⟨b, 7, none⟩ = some x7 := by
  obtain ⟨a0, a1, a2, a3, a4, a5, a6, a7, _⟩ := cells8 h
  exact ⟨a0, a1, a2, a3, a4, a5, a6, a7⟩

theorem below_of_drewN {w w' : World} {n : Nat} (h : Below (w.drewN n).heap.size (w.drewN n) w') : Below w.heap.size w w' := ⟨h.os, h.tape, h.output, h.size, h.block⟩

theorem xyz (q : Nat) (hq : q < 4) : ∃ r : List UInt8, (⟨#[120, 121, 122]⟩ : ByteArray).extract 0 q = ⟨r.toArray⟩ ∧ r.length = q ∧ Ascii r := by
  refine ⟨([120, 121, 122] : List UInt8).take q, ?_, by simp; omega, Ascii.take (by intro b hb; simp at hb; rcases hb with rfl | rfl | rfl <;> decide) q⟩
  rcases (show q = 0 ∨ q = 1 ∨ q = 2 ∨ q = 3 from by omega) with rfl | rfl | rfl | rfl <;> rfl

set_option linter.unusedSimpArgs false in
set_option maxRecDepth 100000 in
set_option maxHeartbeats 40000000 in
theorem law_any (w : World) (af : Option Addr) (cf : Nat) (fs : List UInt8) (hf : Rd w af (u8s fs)) (hfc : fs.length ≤ cf) (hcf : cf ≤ maxLen) (a0 : Option Addr) (c0 : Nat) (l : List Dd) (hl : Rd w a0 (dds l)) (hlc : l.length ≤ c0) (hc0 : c0 ≤ maxLen) :
    Calls Try.prog 3 #[.slice af fs.length cf, .slice a0 l.length c0] w fun e w' => e = .returned (.bool true) ∧ Below w.heap.size w w' := by
  unfold maxLen at hc0 hcf
  replace hl := Lib.hid hl; replace hf := Lib.hid hf
  go_enter Try.func3, Try.ntmps3
  go_upto_block 0 with (fail)
  go_cut [5] (fun v wx => ∃ s : List UInt8, v = .string ⟨s.toArray⟩ ∧ s.length ≤ 20 ∧ Ascii s ∧ Below w.heap.size w wx)
  case first =>
    go_wp2
    go_loopw [5, 6] (fun v i wr => ∃ (k : Nat) (s : List UInt8), k ≤ fs.length ∧ k ≤ 20 ∧ i = .int .i64 k ∧ v = .string ⟨s.toArray⟩ ∧ s.length = k ∧ Ascii s ∧ Below w.heap.size w wr) (fun _ i _ => fs.length - (intOf i).toNat)
    case atStart => exact ⟨0, [], by omega, by omega, rfl, rfl, rfl, (fun b hb => by simp at hb), Below.refl _ _⟩
    case round =>
      obtain ⟨k, s, hk, hk20, rfl, rfl, hsl, hasc, hbel⟩ := hrel
      by_cases hlt : k < fs.length ∧ k < 20
      · obtain ⟨hlt, h20⟩ := hlt
        have hd20 : decide ((k : Int) < 20) = true := by simp; omega
        have hdlt : decide ((k : Int) < (fs.length : Int)) = true := by simp; omega
        obtain ⟨b, off, rfl, hb, g0⟩ : ∃ b off, af = some ⟨b, off, none⟩ ∧ b < w.heap.size ∧ w.cell? ⟨b, off + k, none⟩ = some (.int .u8 fs[k].toNat) := by
          rcases hf.out with h | ⟨b, off, ha, hb, h⟩
          · have := congrArg List.length h; simp [u8s] at this; rw [this] at hlt; simp at hlt
          · exact ⟨b, off, ha, hb, h k _ (by simp [u8s, hlt])⟩
        have e0 := (hbel.cell (p := ⟨b, off + k, none⟩) hb).trans g0
        obtain ⟨x, hx⟩ : ∃ x, x = fs[k] := ⟨_, rfl⟩
        rw [← hx] at e0
        clear g0 hx
        have hx8 := x.toNat_lt
        obtain ⟨q, hq⟩ : ∃ q : Nat, (x.toNat : Int) % 26 = q := ⟨x.toNat % 26, by omega⟩
        have hqt : (x.toNat : Int).tmod 26 = q := by rw [Int.tmod_eq_emod_of_nonneg (by omega)]; exact hq
        have hq26 : q < 26 := by omega
        obtain ⟨y, hy⟩ : ∃ y : UInt8, (y.toNat : Int) = 97 + q := ⟨UInt8.ofNat (97 + q), by simp; omega⟩
        have hconv : (convert 22 9 (.slice (some ⟨wr.heap.size, 0, none⟩) 1 1)).run Try.prog (wr.alloc (.cells #[.int .u8 (97 + q)] 5)) = .ok (.string ⟨[y].toArray⟩) (wr.alloc (.cells #[.int .u8 (97 + q)] 5)) := by
          rw [← hy]; exact run_convert_u8s _ _ _ 5 Try.underlying22 Try.underlying5 Try.underlying9 (bs := [y]) (rd_new wr [.int .u8 y.toNat] 5)
        have hcat : (⟨s.toArray⟩ : ByteArray) ++ ⟨[y].toArray⟩ = ⟨(s ++ [y]).toArray⟩ := by
          apply ByteArray.ext; simp
        have hbs := hbel.size
        go_wp2
        go_roundw
        case rel => exact ⟨k + 1, s ++ [y], by omega, by omega, by go_num, rfl, by simp [hsl], hasc.append (by intro b hb; simp at hb; subst hb; omega), hbel.alloc hbs _⟩
        case measure => simp [intOf]; omega
      · rcases Nat.lt_or_ge k fs.length with h | h
        · obtain rfl : k = 20 := by omega
          have hdlt : decide (((20 : Nat) : Int) < (fs.length : Int)) = true := by simp; omega
          go_wp2
          go_meet
          exact ⟨s, rfl, by omega, hasc, hbel⟩
        · have hdlt : decide ((k : Int) < (fs.length : Int)) = false := by simp; omega
          go_wp2
          go_meet
          exact ⟨s, rfl, by omega, hasc, hbel⟩
  case rest =>
    obtain ⟨s, rfl, hs20, hasc, hbel⟩ := hcut
    have hbs := hbel.size
    go_upto_block 2 with (go_at_call 4; refine (paras_one s _ (by omega)).mono ?_; rintro e w1 ⟨v1, rfl, hb1, hd1⟩)
    have hbel1 := hbel.trans (hb1.mono hbs)
    clear hbel hb1 hbs
    go_cut [5, 7] (fun v d wx => ∃ s : List UInt8, v = .string ⟨s.toArray⟩ ∧ s.length ≤ 68 ∧ Ascii s ∧ IsToks wx d (para s) ∧ Below w.heap.size w wx)
    case first =>
      go_wp2
      go_loopw [5, 7, 8] (fun v d i wr => ∃ (k : Nat) (s : List UInt8), k ≤ l.length ∧ k ≤ 16 ∧ i = .int .i64 k ∧ v = .string ⟨s.toArray⟩ ∧ s.length ≤ 20 + 3 * k ∧ Ascii s ∧ IsToks wr d (para s) ∧ Below w.heap.size w wr) (fun _ _ i _ => l.length - (intOf i).toNat)
      case atStart => exact ⟨0, s, by omega, by omega, rfl, rfl, by omega, hasc, hd1, hbel1⟩
      case round =>
        obtain ⟨k, s, hk, hk16, rfl, rfl, hsl, hasc, hd, hbel⟩ := hrel
        by_cases hlt : k < l.length ∧ k < 16
        · obtain ⟨hlt, h16⟩ := hlt
          have hd16 : decide ((k : Int) < 16) = true := by simp; omega
          have hdlt : decide ((k : Int) < (l.length : Int)) = true := by simp; omega
          obtain ⟨b, off, rfl, hb, g0, g1, g2, g3⟩ := dd_cells hl.out k hlt
          have e1 := (hbel.cell (p := ⟨b, off + k * 4 + 1, none⟩) hb).trans g1
          have e2 := (hbel.cell (p := ⟨b, off + k * 4 + 2, none⟩) hb).trans g2
          have e3 := (hbel.cell (p := ⟨b, off + k * 4 + 3, none⟩) hb).trans g3
          clear g0 g1 g2 g3
          obtain ⟨x, hx⟩ : ∃ x, x = l[k] := ⟨_, rfl⟩
          rw [← hx] at e1 e2 e3
          have xa := x.a.toNat_lt; have xb := x.b.toNat_lt; have xc := x.c.toNat_lt
          obtain ⟨na, hna⟩ : ∃ n, n = x.a.toNat := ⟨_, rfl⟩
          obtain ⟨nb, hnb⟩ : ∃ n, n = x.b.toNat := ⟨_, rfl⟩
          obtain ⟨nc, hnc⟩ : ∃ n, n = x.c.toNat := ⟨_, rfl⟩
          rw [← hna] at e1 xa; rw [← hnb] at e2 xb; rw [← hnc] at e3 xc
          clear hna hnb hnc hx
          have xa' : na < 256 := by omega
          have xb' : nb < 256 := by omega
          have xc' : nc < 256 := by omega
          have hss : (⟨s.toArray⟩ : ByteArray).size = s.length := rfl
          obtain ⟨f, hf⟩ : ∃ f : Nat, (na : Int) % ((s.length : Int) + 1) = f := ⟨((na : Int) % ((s.length : Int) + 1)).toNat, by have := Int.emod_nonneg (na : Int) (show ((s.length : Int) + 1) ≠ 0 by omega); omega⟩
          have hft : (na : Int).tmod ((s.length : Int) + 1) = f := by rw [Int.tmod_eq_emod_of_nonneg (by omega)]; exact hf
          have hfl : f ≤ s.length := by have := Int.emod_lt_of_pos (na : Int) (show (0 : Int) < (s.length : Int) + 1 by omega); omega
          obtain ⟨q, hq⟩ : ∃ q : Nat, (nc : Int) % 4 = q := ⟨nc % 4, by omega⟩
          have hqt : (nc : Int).tmod 4 = q := by rw [Int.tmod_eq_emod_of_nonneg (by omega)]; exact hq
          have hq4 : q < 4 := by omega
          obtain ⟨g, hg⟩ : ∃ g : Nat, (nb : Int) % ((s.length : Int) - (f : Int) + 1) = g := ⟨((nb : Int) % ((s.length : Int) - (f : Int) + 1)).toNat, by have := Int.emod_nonneg (nb : Int) (show ((s.length : Int) - (f : Int) + 1) ≠ 0 by omega); omega⟩
          have hgt : (nb : Int).tmod ((s.length : Int) - (f : Int) + 1) = g := by rw [Int.tmod_eq_emod_of_nonneg (by omega)]; exact hg
          have hgl : f + g ≤ s.length := by have := Int.emod_lt_of_pos (nb : Int) (show (0 : Int) < (s.length : Int) - (f : Int) + 1 by omega); omega
          clear hf hq hg
          obtain ⟨r, hr, hrl, hra⟩ := xyz q hq4
          clear hfc hcf hl
          obtain ⟨out, hout⟩ : ∃ out, out = s.take f ++ r ++ s.drop (f + g) := ⟨_, rfl⟩
          obtain ⟨mid, hmid⟩ : ∃ mid, mid = (s.drop f).take g := ⟨_, rfl⟩
          have hol : out.length + g = s.length + q := by rw [hout]; simp; omega
          have hml : mid.length = g := by rw [hmid]; simp; omega
          have hma : Ascii mid := by rw [hmid]; exact (hasc.drop _).take _
          have hoa : Ascii out := by rw [hout]; exact ((hasc.take _).append hra).append (hasc.drop _)
          have hback : out.take f ++ mid ++ out.drop (f + q) = s := by
            have h1 : out.take f = s.take f := by rw [hout, List.append_assoc, List.take_append_of_le_length (by simp; omega), List.take_take, Nat.min_self]
            have h2 : out.drop (f + q) = s.drop (f + g) := by
              rw [hout, List.drop_append_of_le_length (by simp; omega), List.drop_eq_nil_of_le (by simp; omega), List.nil_append]
            rw [h1, h2, hmid, List.append_assoc, ← List.drop_drop, List.take_append_drop, List.take_append_drop]
          have ha1 := apply_para (f := f) (t := f + g) hasc hra (by omega) hgl (by omega) (by omega)
          have ha2 := apply_para (f := f) (t := f + q) hoa hma (by omega) (by omega) (by omega) (by omega)
          rw [← hout] at ha1; rw [hback] at ha2
          have hsc := stepCheck_lets (f := 1 + f) (t := 1 + (f + g)) hra (by omega) (by omega) (by omega)
          have hpm := para_mid s f (f + g) (by omega) hgl
          rw [show f + g - f = g from by omega, ← hmid] at hpm
          replace ha1 := Lib.hid ha1; replace ha2 := Lib.hid ha2; replace hsc := Lib.hid hsc; replace hpm := Lib.hid hpm; replace hout := Lib.hid hout; replace hmid := Lib.hid hmid; replace hback := Lib.hid hback
          have hbs := hbel.size
          go_wp2_with fail
          refine (letters_one r _ (by omega)).mono ?_
          rintro e w1 ⟨a1, c1, rfl, hb1, hs1⟩
          have hd1 := hd.below hb1
          have hbel1 := hbel.trans (hb1.mono hbs)
          have hbs1 := hb1.size
          clear hd
          rw [hrl] at hs1
          have hll : (lets r 0).length = q := by rw [lets_length]; exact hrl
          have ap1 := fun W (h1 : IsToks W u7 (para s)) (h2 : IsToks W (.slice a1 q c1) (lets r 0)) => apply_one _ _ _ _ _ _ _ W h1 h2 ha1.out
          have iv1 := fun W (h1 : IsToks W u7 (para s)) (h2 : IsToks W (.slice a1 q c1) (lets r 0)) => invert_one _ _ _ _ _ (lets mid 0) _ _ q W h1 h2 ha1.out (by rw [show 1 + (f + g) - (1 + f) = g from by omega]; exact hpm.out) hll
          have mp1 := fun W (h2 : IsToks W (.slice a1 q c1) (lets r 0)) => map_one _ _ _ _ q W h2 hsc.out hll
          have ap2 := fun W (v v' : Value) (h1 : IsToks W v (para out)) (h2 : IsToks W v' (lets mid 0)) => apply_one _ _ _ _ _ _ _ W h1 h2 ha2.out
          have hlm : (lets mid 0).length = g := by rw [lets_length]; exact hml
          have n1 : ((1 + f : Nat) : Int) = 1 + (f : Int) := by omega
          have n2 : ((1 + (f + g) : Nat) : Int) = 1 + ((f : Int) + (g : Int)) := by omega
          have n3 : ((1 + (f + q) : Nat) : Int) = 1 + (f : Int) + (q : Int) := by omega
          simp only [n1, n2, n3, hlm] at ap1 iv1 mp1 ap2
          clear n1 n2 n3 hlm
          replace hd1 := Lib.hid hd1; replace hs1 := Lib.hid hs1; replace ap1 := Lib.hid ap1; replace iv1 := Lib.hid iv1; replace mp1 := Lib.hid mp1; replace ap2 := Lib.hid ap2; replace hll := Lib.hid hll
          go_wp2_with fail
          refine (ap1.out _ (hd1.out.below (below_alloc _ _)) (hs1.out.below (below_alloc _ _))).mono ?_
          rintro e w2 ⟨v2, rfl, hb2, hn2⟩
          have hX2 := (hb2.block w1.heap.size (by simp)).trans (heap_alloc_new w1 _)
          have hz2 : w1.heap.size < w2.heap.size := lt_of_heap hX2
          have hbel2 := below_in hbel1 (by omega) hb2
          have hs2 := (hs1.out.below (below_alloc _ _)).below hb2
          have hd2 := (hd1.out.below (below_alloc _ _)).below hb2
          obtain ⟨p0, p1, p2, p3, p4, p5, p6, p7⟩ := cells8_ex hX2
          clear hb2 hd1 hs1
          replace hX2 := Lib.hid hX2; replace hs2 := Lib.hid hs2; replace hd2 := Lib.hid hd2; replace hn2 := Lib.hid hn2
          go_wp2_with fail
          refine (iv1.out _ hd2.out hs2.out).mono ?_
          rintro e w3 ⟨a3, c3, rfl, hb3, hm3⟩
          clear p0 p1 p2 p3 p4 p5 p6 p7
          have hX3 := (hb3.block w1.heap.size hz2).trans hX2.out
          have hs3 := hs2.out.below hb3
          have hd3 := hd2.out.below hb3
          have hn3 := hn2.out.below hb3
          have hz3 : w1.heap.size < w3.heap.size := lt_of_heap hX3
          have hbel3 := hbel2.trans (hb3.mono (by omega))
          obtain ⟨p0, p1, p2, p3, p4, p5, p6, p7⟩ := cells8_ex hX3
          clear hb3 hX2 hs2 hd2 hn2
          replace hs3 := Lib.hid hs3; replace hd3 := Lib.hid hd3; replace hn3 := Lib.hid hn3; replace hm3 := Lib.hid hm3
          go_wp2_with fail
          refine (mp1.out _ (hs3.out.below (below_alloc _ _))).mono ?_
          rintro e w4 ⟨g4, c4, rfl, hb4, hg4, hh4⟩
          clear p0 p1 p2 p3 p4 p5 p6 p7
          have hY4 := (hb4.block w3.heap.size (by simp)).trans (heap_alloc_new w3 _)
          have hz4 : w3.heap.size < w4.heap.size := lt_of_heap hY4
          have hd4 := (hd3.out.below (below_alloc _ _)).below hb4
          have hn4 := (hn3.out.below (below_alloc _ _)).below hb4
          have hm4 := (hm3.out.below (below_alloc _ _)).below hb4
          have hbel4 := below_in hbel3 (by omega) hb4
          have hg4' : g4 < w4.heap.size := lt_of_heap hh4
          obtain ⟨p0, p1, p2, p3, p4, p5, p6, p7⟩ := cells8_ex hY4
          clear hb4 hd3 hn3 hm3 hs3 hX3
          replace hd4 := Lib.hid hd4; replace hn4 := Lib.hid hn4; replace hm4 := Lib.hid hm4
          go_wp2_with fail
          refine (ap2.out _ _ _ hn4.out hm4.out).mono ?_
          rintro e w5 ⟨v5, rfl, hb5, hw5⟩
          clear p0 p1 p2 p3 p4 p5 p6 p7
          have hh5 := (hb5.block g4 hg4').trans hh4
          have hd5 := hd4.out.below hb5
          have hn5 := hn4.out.below hb5
          have hbel5 := hbel4.trans (hb5.mono (by omega))
          have hbs5 := hbel5.size
          clear hb5 hd4 hn4 hm4 hh4 hY4
          replace hd5 := Lib.hid hd5; replace hn5 := Lib.hid hn5; replace hw5 := Lib.hid hw5; replace hh5 := Lib.hid hh5
          clear ap1 iv1 mp1 ap2 ha1 ha2 hsc hpm
          have hfs : (f : Int) ≤ s.length := by omega
          have hts : (f : Int) + g ≤ s.length := by omega
          have hf0 : (0 : Int) ≤ (f : Int) + g := by omega
          go_wp2_with fail
          go_quiet (fail)
          have hstr : (⟨s.toArray⟩ : ByteArray).extract 0 f ++ ⟨r.toArray⟩ ++ (⟨s.toArray⟩ : ByteArray).extract (f + g) s.length = ⟨out.toArray⟩ := by
            rw [hout.out]; apply ByteArray.ext; simp [List.extract_eq_take_drop]; exact List.take_of_length_le (by simp)
          replace hstr := Lib.hid hstr
          rw [show (1 + ((f : Int) + g) - (1 + f)) = g from by omega] at hh5
          go_wp2_with fail
          rw [hstr.out]
          refine (paras_one out (w5.drewN nq) (by omega)).mono ?_
          rintro e w6 ⟨v6, rfl, hb6', hv6⟩
          have hb6 := below_of_drewN hb6'
          clear hb6'
          have hz5 : g4 < w5.heap.size := lt_of_heap hh5.out
          have hh6 := (hb6.block g4 hz5).trans hh5.out
          have hd6 := hd5.out.below hb6
          have hn6 := hn5.out.below hb6
          have hw6 := hw5.out.below hb6
          have hbel6 := hbel5.trans (hb6.mono hbs5)
          have hz6 : g4 < w6.heap.size := lt_of_heap hh6
          clear hb6 hd5 hn5 hw5
          replace hd6 := Lib.hid hd6; replace hn6 := Lib.hid hn6; replace hw6 := Lib.hid hw6; replace hv6 := Lib.hid hv6; replace hh6 := Lib.hid hh6
          go_wp2_with fail
          refine (alike_any _ _ (para out) _ hn6.out hv6.out).mono ?_
          rintro e w7 ⟨rfl, hb7⟩
          have hh7 := (hb7.block g4 hz6).trans hh6.out
          have hd7 := hd6.out.below hb7
          have hn7 := hn6.out.below hb7
          have hw7 := hw6.out.below hb7
          have hbel7 := hbel6.trans (hb7.mono hbel6.size)
          have hz7 : g4 < w7.heap.size := lt_of_heap hh7
          clear hb7 hd6 hn6 hw6 hv6
          replace hd7 := Lib.hid hd7; replace hn7 := Lib.hid hn7; replace hw7 := Lib.hid hw7; replace hh7 := Lib.hid hh7
          go_wp2_with fail
          refine (alike_any _ _ (para s) _ hw7.out hd7.out).mono ?_
          rintro e w8 ⟨rfl, hb8⟩
          have hh8 := (hb8.block g4 hz7).trans hh7.out
          have hn8 := hn7.out.below hb8
          have hbel8 := hbel7.trans (hb8.mono hbel7.size)
          have z0 : w8.cell? ⟨g4, 0, none⟩ = some (.int .i64 (1 + f)) := by rw [cell_of_heap hh8]; rfl
          have z1 : w8.cell? ⟨g4, 1, none⟩ = some (.int .i64 g) := by rw [cell_of_heap hh8]; rfl
          have z2 : w8.cell? ⟨g4, 2, none⟩ = some (.int .i64 q) := by rw [cell_of_heap hh8]; rfl
          clear hb8 hd7 hn7 hw7 hh8
          replace hn8 := Lib.hid hn8
          go_wp2
          go_roundw
          case rel => exact ⟨k + 1, out, by omega, by omega, by go_num, rfl, by omega, hoa, hn8.out, hbel8⟩
          case measure => simp [intOf]; omega
        · rcases Nat.lt_or_ge k l.length with h | h
          · obtain rfl : k = 16 := by omega
            have hdlt : decide (((16 : Nat) : Int) < (l.length : Int)) = true := by simp; omega
            go_wp2
            go_meet
            exact ⟨s, rfl, by omega, hasc, hd, hbel⟩
          · have hdlt : decide ((k : Int) < (l.length : Int)) = false := by simp; omega
            go_wp2
            go_meet
            exact ⟨s, rfl, by omega, hasc, hd, hbel⟩
    case rest =>
      obtain ⟨s, rfl, hs68, hasc, hd, hbel⟩ := hcut
      go_wp2_with (go_at_call 10; refine (text_any _ (para s) _ hd (by rw [para_length]; omega) (para_low s hasc)).mono ?_; rw [text_para s hasc]; rintro e w2 ⟨rfl, hb2⟩)
      go_wp2_with (go_at_call 11; refine (awake_any _).mono ?_; rintro e w3 ⟨rfl, hb3⟩)
      go_ret
      exact ⟨rfl, hbel.trans ((hb2.trans (hb3.mono hb2.size)).mono hbel.size)⟩

end Go.Proofs.Ytgjcllbcfhpckaa

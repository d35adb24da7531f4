/- How a slice of deeds that came in reads: its cells are the bytes of deeds. -/
import Derived.Test.YtgjcllbcfhpckaaLd0s
import Derived.Test.YtgjcllbcfhpckaaRows
import Derived.ProofKit
import Derived.OpenShut
import Derived.Deep.Slices
import Derived.ChangeSlices
namespace Go.Proofs.Ytgjcllbcfhpckaa
open Go.ChangeShapes Go.WideShapes Go.ChangeAt Go.RowKit Go.Deep

theorem u8_of {n : Int} (h : (Lit.int .u8 n).wf = true) : ∃ b : UInt8, n = b.toNat := by
  have hb := bounds_u8 h
  refine ⟨UInt8.ofNat n.toNat, ?_⟩
  rw [UInt8.toNat_ofNat']; omega

theorem Try.cellsU8 : Try.prog.cellsOf 5 = 1 := by kernel_rfl
theorem Try.cellsDeed : Try.prog.cellsOf 27 = 4 := by kernel_rfl

theorem open_dd {H : Type} {enc : TypeId × Value → H} {w : World} {base : Nat} {spare : Nat → Bool} {hd : Bool} {fuel : Nat} {cs : List Value} {x : DataW H × List MemPlace}
    (h : DataW.trod enc Try.prog w base spare hd fuel 27 cs = some x) : ∃ d : Dd, cs = d.cs := by
  obtain ⟨xs, n, _, _, hl, hxl, hf⟩ := DataW.trod_struct Try.underlying27 h
  rw [Try.cellsDeed] at hl
  match cs, hl with
  | [c0, c1, c2, c3], _ =>
    have key : ∀ (i : Nat) (hi : i < 4) (ft : TypeId) (c : Value), DataW.trod enc Try.prog w base spare hd n 5 [c] = xs[i]? → ∃ b : UInt8, c = .int .u8 b.toNat := by
      intro i hi ft c hc
      have hx : xs.length = 4 := hxl
      rw [List.getElem?_eq_getElem (by omega)] at hc
      obtain ⟨m, hm, _, hw⟩ := DataW.trod_int Try.underlying5 hc
      obtain ⟨b, rfl⟩ := u8_of hw
      exact ⟨b, by simpa using hm⟩
    obtain ⟨b0, rfl⟩ := key 0 (by omega) 0 c0 (by simpa [Try.cellsU8] using hf 0 _ rfl)
    obtain ⟨b1, rfl⟩ := key 1 (by omega) 0 c1 (by simpa [Try.cellsU8] using hf 1 _ rfl)
    obtain ⟨b2, rfl⟩ := key 2 (by omega) 0 c2 (by simpa [Try.cellsU8] using hf 2 _ rfl)
    obtain ⟨b3, rfl⟩ := key 3 (by omega) 0 c3 (by simpa [Try.cellsU8] using hf 3 _ rfl)
    exact ⟨⟨b0, b1, b2, b3⟩, rfl⟩

theorem dds_cell (l : List Dd) (j : Nat) (v : Value) (h : (dds l)[j]? = some v) : ∃ hi : j / 4 < l.length, (l[j / 4]).cs[j % 4]? = some v := by
  have hlt := (List.getElem?_eq_some_iff.1 h).1
  rw [dds_length] at hlt
  have hi : j / 4 < l.length := by omega
  refine ⟨hi, ?_⟩
  rw [← dds_get l (j / 4) hi (j % 4) (by omega), show j / 4 * 4 + j % 4 = j from by omega]
  exact h

theorem open_dds {H : Type} {enc : TypeId × Value → H} {w : World} {base : Nat} {spare : Nat → Bool} {hd : Bool} {a : Option Addr} {len cap : Nat} {d : DataW H} {p : List MemPlace}
    (h : DataW.Trod enc Try.prog w base spare hd 23 (.slice a len cap) d p) : ∃ l : List Dd, l.length = len ∧ Rd w a (dds l) ∧ len ≤ cap ∧ cap ≤ maxLen := by
  obtain ⟨fuel, hf⟩ := h
  rcases open_slice Try.underlying23 hf with ⟨hcs, _⟩ | ⟨ad, len', cap', m, n, D, Pl, hcs, _, hl, hm, hmm, _, hcell⟩
  · simp [Value.cells] at hcs
    obtain ⟨rfl, rfl, rfl⟩ := hcs
    exact ⟨[], rfl, .inl rfl, Nat.le_refl _, by simp [maxLen]⟩
  · simp [Value.cells] at hcs
    obtain ⟨rfl, rfl, rfl⟩ := hcs
    have hlm : len ≤ m := by rw [hmm]; split <;> omega
    have hex : ∀ i, i < len → ∃ x : Dd, ∀ j, j < 4 → w.cell? ((ad.add (i * 4)).add j) = x.cs[j]? := by
      intro i hi
      obtain ⟨cs', hc, ht⟩ := hcell i (by omega)
      rw [Try.cellsDeed] at hc
      obtain ⟨x, rfl⟩ := open_dd ht
      exact ⟨x, fun j hj => (World.cells?_some hc).2.2 j hj⟩
    have hinh : Inhabited Dd := ⟨⟨0, 0, 0, 0⟩⟩
    obtain ⟨f, hfx⟩ := choose_lt hex
    refine ⟨(List.range len).map f, by simp, ?_, hl, hm⟩
    rcases Nat.eq_zero_or_pos len with h0 | hpos
    · subst h0; exact .inl rfl
    · have h00 := hfx 0 hpos 0 (by omega)
      obtain ⟨b, off, sp⟩ := ad
      have h01 : w.cell? ⟨b, off, sp⟩ = some (.int .u8 (f 0).k.toNat) := by simpa [Addr.add, Dd.cs] using h00
      have hspot : sp = none := World.cell?_spot h01
      subst hspot
      refine .inr ⟨b, off, rfl, ?_, fun j v hv => ?_⟩
      · rcases Nat.lt_or_ge b w.heap.size with hlt | hge
        · exact hlt
        · simp [World.cell?, Array.getElem?_eq_none hge] at h01
      · obtain ⟨hi, hv⟩ := dds_cell _ j v hv
        simp at hi
        have := hfx (j / 4) hi (j % 4) (by omega)
        rw [Addr.add_mid, Addr.add_mid, Nat.add_assoc, show j / 4 * 4 + j % 4 = j from by omega] at this
        rw [this]
        simpa using hv

theorem open_u8s {H : Type} {enc : TypeId × Value → H} {w : World} {base : Nat} {spare : Nat → Bool} {hd : Bool} {a : Option Addr} {len cap : Nat} {d : DataW H} {p : List MemPlace}
    (h : DataW.Trod enc Try.prog w base spare hd 22 (.slice a len cap) d p) : ∃ l : List UInt8, l.length = len ∧ Rd w a (u8s l) ∧ len ≤ cap ∧ cap ≤ maxLen := by
  obtain ⟨fuel, hf⟩ := h
  rcases open_ints Try.underlying22 Try.underlying5 Try.cellsU8 hf with ⟨hcs, _⟩ | ⟨ad, len', cap', zs, hcs, _, hl, hm, hzl, _, hcell, hwf⟩
  · simp [Value.cells] at hcs
    obtain ⟨rfl, rfl, rfl⟩ := hcs
    exact ⟨[], rfl, .inl rfl, Nat.le_refl _, by simp [maxLen]⟩
  · simp [Value.cells] at hcs
    obtain ⟨rfl, rfl, rfl⟩ := hcs
    have hlz : len ≤ zs.length := by rw [hzl]; split <;> omega
    have hone : ∀ i, i < len → w.cell? (ad.add i) = some (.int .u8 ((UInt8.ofNat (zs.getD i 0).toNat).toNat : Int)) := by
      intro i hi
      rw [hcell i (by omega)]
      have hz : zs.getD i 0 ∈ zs := by rw [List.getD_eq_getElem?_getD, List.getElem?_eq_getElem (by omega)]; exact List.getElem_mem _
      have hb := bounds_u8 (hwf _ hz)
      rw [UInt8.toNat_ofNat']; congr 2; omega
    refine ⟨(List.range len).map fun i => UInt8.ofNat (zs.getD i 0).toNat, by simp, ?_, hl, hm⟩
    rcases Nat.eq_zero_or_pos len with h0 | hpos
    · subst h0; exact .inl rfl
    · have h00 := hone 0 hpos
      obtain ⟨b, off, sp⟩ := ad
      have hspot : sp = none := World.cell?_spot h00
      subst hspot
      refine .inr ⟨b, off, rfl, ?_, fun j v hv => ?_⟩
      · rcases Nat.lt_or_ge b w.heap.size with hlt | hge
        · exact hlt
        · simp [World.cell?, Addr.add, Array.getElem?_eq_none hge] at h00
      · have hj : j < len := by have := (List.getElem?_eq_some_iff.1 hv).1; simpa [u8s] using this
        have := hone j hj
        rw [Addr.add_mid] at this
        rw [this]
        simpa [u8s, hj] using hv

end Go.Proofs.Ytgjcllbcfhpckaa

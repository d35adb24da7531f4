/- The contracts of package disk. Condition: the disk was made by New, its bytes are its own. -/
import Derived.Test.YtkpmohbcejbagaaFr
import Derived.Test.YtkpmohbcejbagaaProg
namespace Go.Proofs.Ytkpmohbcejbagaa
open Go.RowKit

/-- a disk: its block, its bytes, how many are sure, how many there may be -/
def DiskAt (w : World) (base d : Nat) (a : Option Addr) (c : Nat) (bs : List UInt8) (sure most : Nat) : Prop :=
  w.heap[d]? = some (.cells #[.slice a bs.length c, .int .i64 sure, .int .i64 most, .bool true] 38 (0, 0)) ∧ base ≤ d ∧
  Own w base 5 1 a bs.length c (u8s bs) ∧ blk a ≠ some d

/-- a disk comes back, and a number -/
def RetDisk (w : World) (base d : Nat) (a : Option Addr) (er : Int) (bs : List UInt8) (sure most : Nat) (e : Ending) (w' : World) : Prop :=
  e = .returned (.int .i64 er) ∧ Fr w w' (fun k => k = d ∨ some k = blk a) ∧
  ∃ a' c', DiskAt w' base d a' c' bs sure most ∧ (blk a' = blk a ∨ ∃ g, blk a' = some g ∧ w.heap.size ≤ g)

theorem DiskAt.cells {w : World} {base d : Nat} {a : Option Addr} {c : Nat} {bs : List UInt8} {sure most : Nat} (h : DiskAt w base d a c bs sure most) :
    w.cell? ⟨d, 0, none⟩ = some (.slice a bs.length c) ∧ w.cell? ⟨d, 1, none⟩ = some (.int .i64 sure) ∧ w.cell? ⟨d, 2, none⟩ = some (.int .i64 most) ∧ w.cell? ⟨d, 3, none⟩ = some (.bool true) ∧
    w.frozen? ⟨d, 0, none⟩ = false ∧ w.frozen? ⟨d, 1, none⟩ = false := by
  refine ⟨?_, ?_, ?_, ?_, frozen_of_heap h.1 rfl, frozen_of_heap h.1 rfl⟩ <;> (rw [cell_of_heap h.1]; rfl)

theorem DiskAt.drewN {w : World} {base d : Nat} {a : Option Addr} {c : Nat} {bs : List UInt8} {sure most : Nat} (h : DiskAt w base d a c bs sure most) (n : Nat) : DiskAt (w.drewN n) base d a c bs sure most := h

/-- nothing but draws -/
theorem retDisk_same {w : World} {base d : Nat} {a : Option Addr} {c : Nat} {bs : List UInt8} {sure most : Nat} (h : DiskAt w base d a c bs sure most) (er : Int) (n : Nat) : RetDisk w base d a er bs sure most (.returned (.int .i64 er)) (w.drewN n) :=
  ⟨rfl, (Fr.refl _ _).drewN n, a, c, h, .inl rfl⟩

set_option maxHeartbeats 400000 in
theorem dnone_any (b : Nat) (w : World) (h3 : w.cell? ⟨b, 3, none⟩ = some (.bool true)) :
    Calls Try.prog 13 #[.pointer (some ⟨b, 0, none⟩)] w fun e w' => e = .returned (.bool false) ∧ w = w' := by
  go_enter Try.func13, Try.ntmps13
  go_wp2
  go_ret
  exact ⟨rfl, rfl⟩

set_option maxHeartbeats 400000 in
theorem dlen_any {w : World} {base d : Nat} {a : Option Addr} {c : Nat} {bs : List UInt8} {sure most : Nat} (h : DiskAt w base d a c bs sure most) :
    Calls Try.prog 10 #[.pointer (some ⟨d, 0, none⟩)] w fun e w' => e = .returned (.int .i64 bs.length) ∧ w = w' := by
  obtain ⟨c0, c1, c2, c3, _, _⟩ := h.cells
  go_enter Try.func10, Try.ntmps10
  go_wp2_with (go_at_call 13; refine (dnone_any _ _ c3).mono ?_; rintro e w' ⟨rfl, rfl⟩)
  go_ret
  exact ⟨rfl, rfl⟩

set_option maxHeartbeats 400000 in
theorem dsure_any {w : World} {base d : Nat} {a : Option Addr} {c : Nat} {bs : List UInt8} {sure most : Nat} (h : DiskAt w base d a c bs sure most) :
    Calls Try.prog 11 #[.pointer (some ⟨d, 0, none⟩)] w fun e w' => e = .returned (.int .i64 sure) ∧ w = w' := by
  obtain ⟨c0, c1, c2, c3, _, _⟩ := h.cells
  go_enter Try.func11, Try.ntmps11
  go_wp2_with (go_at_call 13; refine (dnone_any _ _ c3).mono ?_; rintro e w' ⟨rfl, rfl⟩)
  go_ret
  exact ⟨rfl, rfl⟩

theorem heap_set2 {w : World} {d : Nat} {x0 x1 x2 x3 y0 y1 : Value} {t : TypeId} (h : w.heap[d]? = some (.cells #[x0, x1, x2, x3] t (0, 0))) :
    ((w.setCell ⟨d, 0, none⟩ y0).setCell ⟨d, 1, none⟩ y1).heap[d]? = some (.cells #[y0, y1, x2, x3] t (0, 0)) := by
  rw [heap_setCell_at (heap_setCell_at h _)]; rfl

theorem keep_own {w : World} {base d : Nat} {a : Option Addr} {c : Nat} {bs : List UInt8} {sure most : Nat} (h : DiskAt w base d a c bs sure most) {m : Nat} (hm : m ≤ bs.length) {w' : World}
    (he : (w.setCell ⟨d, 0, none⟩ (.slice a m m)).setCell ⟨d, 1, none⟩ (.int .i64 m) = w') :
    DiskAt w' base d a m (bs.take m) m most ∧ Fr w w' (fun k => k = d) := by
  obtain ⟨h0, hb, hown, hne⟩ := h
  have hf : Fr w w' (fun k => k = d) := by
    rw [← he]
    exact ((Fr.refl w (fun k => k = d)).set (d := d) rfl 0 _).set (d := d) rfl 1 _
  have hmin : (bs.take m).length = m := by rw [List.length_take, Nat.min_eq_left hm]
  have hh : w'.heap[d]? = some (.cells #[.slice a m m, .int .i64 m, .int .i64 most, .bool true] 38 (0, 0)) := by
    rw [← he]; exact heap_set2 h0
  have ho : Own w base 5 1 a m m ((u8s bs).take (m * 1)) := (hown.take hm).room (Nat.le_refl m) (Nat.le_trans hm hown.2.1)
  have ho' := ho.fr hf (fun b hb' hd => hne (by rw [hb', hd]))
  unfold DiskAt
  rw [hmin, u8s_take]
  rw [Nat.mul_one] at ho'
  exact ⟨⟨hh, hb, ho', hne⟩, hf⟩

set_option maxHeartbeats 400000 in
theorem keep_any {w : World} {base d : Nat} {a : Option Addr} {c : Nat} {bs : List UInt8} {sure most : Nat} (h : DiskAt w base d a c bs sure most) (m : Nat) (hm : m ≤ bs.length) :
    Calls Try.prog 14 #[.pointer (some ⟨d, 0, none⟩), .int .i64 m] w fun e w' => e = .returned (.tuple #[]) ∧ DiskAt w' base d a m (bs.take m) m most ∧ Fr w w' (fun k => k = d) := by
  obtain ⟨c0, c1, c2, c3, f0, f1⟩ := h.cells
  have hn := h.2.2.1.2.1
  have hc := h.2.2.1.2.2.1
  unfold maxLen at hc
  have H := fun w' => keep_own h hm (w' := w')
  replace H := Lib.hid H
  go_enter Try.func14, Try.ntmps14
  go_wp2
  go_end0
  exact ⟨rfl, H.out _ rfl⟩

set_option maxHeartbeats 400000 in
theorem dsync_any {w : World} {base d : Nat} {a : Option Addr} {c : Nat} {bs : List UInt8} {sure most : Nat} (h : DiskAt w base d a c bs sure most) :
    Calls Try.prog 6 #[.pointer (some ⟨d, 0, none⟩)] w (RetDisk w base d a 0 bs bs.length most) := by
  obtain ⟨c0, c1, c2, c3, f0, f1⟩ := h.cells
  have hf : Fr w (w.setCell ⟨d, 1, none⟩ (.int .i64 bs.length)) (fun k => k = d ∨ some k = blk a) := (Fr.refl w (fun k => k = d ∨ some k = blk a)).set (d := d) (.inl rfl) 1 _
  have hd : DiskAt (w.setCell ⟨d, 1, none⟩ (.int .i64 bs.length)) base d a c bs bs.length most :=
    ⟨by rw [heap_setCell_at h.1]; rfl, h.2.1, h.2.2.1.fr ((Fr.refl w (fun k => k = d)).set (d := d) rfl 1 _) (fun b hb e => h.2.2.2 (by rw [hb, e])), h.2.2.2⟩
  replace hf := Lib.hid hf; replace hd := Lib.hid hd
  go_enter Try.func6, Try.ntmps6
  go_wp2_with (go_at_call 13; refine (dnone_any _ _ c3).mono ?_; rintro e w' ⟨rfl, rfl⟩)
  go_ret
  exact ⟨rfl, hf.out, a, c, hd.out, .inl rfl⟩

set_option maxHeartbeats 400000 in
theorem dcut_any {w : World} {base d : Nat} {a : Option Addr} {c : Nat} {bs : List UInt8} {sure most : Nat} (h : DiskAt w base d a c bs sure most) (k : Int) :
    Calls Try.prog 8 #[.pointer (some ⟨d, 0, none⟩), .int .i64 k] w
      (fun e w' => (k < 0 ∨ (bs.length : Int) < k) ∧ RetDisk w base d a 1 bs sure most e w' ∨ (0 ≤ k ∧ k ≤ bs.length) ∧ RetDisk w base d a 0 (bs.take k.toNat) k.toNat most e w') := by
  obtain ⟨c0, c1, c2, c3, f0, f1⟩ := h.cells
  by_cases hk : k < 0 ∨ (bs.length : Int) < k
  · refine Calls.mono (R := RetDisk w base d a 1 bs sure most) ?_ (fun e w' h => .inl ⟨hk, h⟩)
    rcases hk with hk | hk
    · go_enter Try.func8, Try.ntmps8
      go_wp2_with (go_at_call 13; refine (dnone_any _ _ c3).mono ?_; rintro e w' ⟨rfl, rfl⟩)
      go_ret
      exact retDisk_same h 1 0
    · go_enter Try.func8, Try.ntmps8
      go_wp2_with (go_at_call 13; refine (dnone_any _ _ c3).mono ?_; rintro e w' ⟨rfl, rfl⟩)
      go_ret
      exact retDisk_same h 1 0
  · refine Calls.mono (R := RetDisk w base d a 0 (bs.take k.toNat) k.toNat most) ?_ (fun e w' h => .inr ⟨by omega, h⟩)
    obtain ⟨m, rfl⟩ := Int.eq_ofNat_of_zero_le (show 0 ≤ k by omega)
    rw [Int.toNat_natCast]
    have hm : m ≤ bs.length := by omega
    have hm' : ((m : Nat) : Int) ≤ bs.length := by omega
    clear hk
    go_enter Try.func8, Try.ntmps8
    go_wp2_with (first | (go_at_call 13; refine (dnone_any _ _ c3).mono ?_; rintro e w' ⟨rfl, rfl⟩) | (go_at_call 14; refine (keep_any h m hm).mono ?_; rintro e w' ⟨rfl, hd, hf⟩))
    go_ret
    exact ⟨rfl, hf.mono (fun _ _ => .inl), a, m, hd, .inl rfl⟩

end Go.Proofs.Ytkpmohbcejbagaa

/- The contracts of disk.New, Append, Crash, Bytes. Conditions: the disk was made by New; it takes at most 2^20 bytes. -/
import Derived.Test.YtkpmohbcejbagaaDk
namespace Go.Proofs.Ytkpmohbcejbagaa
open Go.RowKit

theorem Try.infoU8 : (Try.prog.info? 5).map (fun i => (i.zero, i.size, i.bytes)) = some (some (.int .u8 0), 1, 1) := by kernel_rfl

theorem append_disk {w w1 : World} {base d : Nat} {a a1 : Option Addr} {c c1 : Nat} {bs more : List UInt8} {sure most : Nat} (h : DiskAt w base d a c bs sure most)
    (hown : Own w1 base 5 1 a1 (bs.length + more.length) c1 (u8s bs ++ u8s more)) (hgr : w.grownBy w1 (blk a)) (hb : blk a1 = blk a ∨ blk a1 = some w.heap.size) :
    RetDisk w base d a 0 (bs ++ more) sure most (.returned (.int .i64 0)) (w1.setCell ⟨d, 0, none⟩ (.slice a1 (bs.length + more.length) c1)) := by
  obtain ⟨h0, hbd, ho, hne⟩ := h
  have hd : d < w.heap.size := lt_of_heap h0
  have h1 : w1.heap[d]? = some (.cells #[.slice a bs.length c, .int .i64 sure, .int .i64 most, .bool true] 38 (0, 0)) := by
    rw [hgr.block d hd (fun e => hne e.symm)]; exact h0
  have hne1 : blk a1 ≠ some d := by
    rcases hb with hb | hb
    · rw [hb]; exact hne
    · rw [hb]; intro e; cases e; omega
  have hf : Fr w (w1.setCell ⟨d, 0, none⟩ (.slice a1 (bs.length + more.length) c1)) (fun k => k = d ∨ some k = blk a) :=
    ((Fr.of_grown hgr).mono (fun i _ hi => .inr hi)).set (d := d) (.inl rfl) 0 _
  refine ⟨rfl, hf, a1, c1, ⟨?_, hbd, ?_, hne1⟩, ?_⟩
  · rw [heap_setCell_at h1, List.length_append]; rfl
  · rw [List.length_append, u8s_append]
    exact hown.fr ((Fr.refl w1 (fun k => k = d)).set (d := d) rfl 0 _) (fun b hb' e => hne1 (by rw [hb', e]))
  · rcases hb with hb | hb
    · exact .inl hb
    · exact .inr ⟨_, hb, Nat.le_refl _⟩

theorem append_heap {w w1 : World} {base d : Nat} {a : Option Addr} {c : Nat} {bs : List UInt8} {sure most n : Nat} (h : DiskAt w base d a c bs sure most) (hgr : (w.drewN n).grownBy w1 (blk a)) :
    w1.heap[d]? = some (.cells #[.slice a bs.length c, .int .i64 sure, .int .i64 most, .bool true] 38 (0, 0)) := by
  obtain ⟨h0, hbd, ho, hne⟩ := h
  rw [hgr.block d (lt_of_heap h0) (fun e => hne e.symm)]; exact h0

theorem RetDisk.of_drewN {w : World} {base d : Nat} {a : Option Addr} {er : Int} {bs : List UInt8} {sure most n : Nat} {e : Ending} {w' : World} (h : RetDisk (w.drewN n) base d a er bs sure most e w') : RetDisk w base d a er bs sure most e w' :=
  ⟨h.1, ⟨h.2.1.os, h.2.1.tape, h.2.1.output, h.2.1.size, h.2.1.block⟩, h.2.2⟩

set_option maxHeartbeats 400000 in
theorem dappend_any {w : World} {base d : Nat} {a : Option Addr} {c : Nat} {bs : List UInt8} {sure most : Nat} (h : DiskAt w base d a c bs sure most) (hmost : most ≤ 1048576) (hle : bs.length ≤ most)
    (ax : Option Addr) (cx : Nat) (more : List UInt8) (hx : Rd w ax (u8s more)) (hml : more.length ≤ 1048576) (hbase : base ≤ w.heap.size) :
    Calls Try.prog 5 #[.pointer (some ⟨d, 0, none⟩), .slice ax more.length cx] w
      (fun e w' => most < bs.length + more.length ∧ RetDisk w base d a 12 bs sure most e w' ∨ bs.length + more.length ≤ most ∧ RetDisk w base d a 0 (bs ++ more) sure most e w') := by
  obtain ⟨c0, c1, c2, c3, f0, f1⟩ := h.cells
  by_cases hf : most < bs.length + more.length
  · refine Calls.mono (R := RetDisk w base d a 12 bs sure most) ?_ (fun e w' h => .inl ⟨hf, h⟩)
    go_enter Try.func5, Try.ntmps5
    go_wp2_with (go_at_call 13; refine (dnone_any _ _ c3).mono ?_; rintro e w' ⟨rfl, rfl⟩)
    go_quiet (fail)
    go_wp2
    go_ret
    exact retDisk_same h 12 _
  · refine Calls.mono (R := RetDisk w base d a 0 (bs ++ more) sure most) ?_ (fun e w' h => .inr ⟨by omega, h⟩)
    obtain ⟨i0, hi, hz0, hz1, hz2⟩ := info_parts Try.infoU8
    replace hi := Lib.hid hi; replace hz0 := Lib.hid hz0; replace hz1 := Lib.hid hz1; replace hz2 := Lib.hid hz2
    have hfin := fun nq w1 a1 c1 => append_disk (w1 := w1) (a1 := a1) (c1 := c1) (more := more) (h.drewN nq)
    replace hfin := Lib.hid hfin
    have hown0 : ∀ n, Own (w.drewN n) base 5 1 a bs.length c (u8s bs) := fun n => (h.drewN n).2.2.1
    have hsrc0 : ∀ n, Src Try.prog 1 27 (.slice ax more.length cx) more.length (u8s more) (w.drewN n) := fun n => Src.ofRd _ Try.underlying27 (by rw [u8s_length, Nat.mul_one]) (show Rd (w.drewN n) ax (u8s more) from hx) (u8s_one _)
    replace hown0 := Lib.hid hown0; replace hsrc0 := Lib.hid hsrc0; replace hx := Lib.hid hx
    replace h := Lib.hid h
    go_enter Try.func5, Try.ntmps5
    go_wp2_with (go_at_call 13; refine (dnone_any _ _ c3).mono ?_; rintro e w' ⟨rfl, rfl⟩)
    go_quiet (fail)
    go_wp2_with (at_builtin; go_loud (with_reducible refine wpList_append_S _ rfl (.tmp 26) (.tmp 27) 27 27 rfl base 5 i0 _ 1 1 Try.underlying27 hi.out hz0.out hz1.out hz2.out rfl a _ c (u8s bs) rfl (hown0.out _) (.slice ax more.length cx) more.length (u8s more) rfl (hsrc0.out _) ?_ ?_ ?_ ?_))
    case refine_1 => unfold maxLen; omega
    case refine_2 => omega
    case refine_3 => exact hbase
    intro a1 c1 w1 hown hgr hb _
    have hh1 := append_heap h.out hgr
    have k0 : w1.cell? ⟨d, 0, none⟩ = some (.slice a bs.length c) := by rw [cell_of_heap hh1]; rfl
    have e0 : w1.frozen? ⟨d, 0, none⟩ = false := frozen_of_heap hh1 rfl
    have hend := hfin.out nq w1 a1 c1 hown hgr hb
    replace hend := Lib.hid hend
    clear hown hgr hb hh1 hown0 hsrc0 hfin h
    go_wp2
    go_ret
    exact hend.out.of_drewN

theorem bytes_row {cur : List Value} {bs : List UInt8} (hl : cur.length = bs.length) : splice cur 0 (u8s bs) = u8s bs := by
  unfold splice
  rw [List.drop_of_length_le (by rw [u8s_length]; omega)]
  simp

/-- an own row of bytes comes back -/
def RetBytes (w : World) (bs : List UInt8) (e : Ending) (w' : World) : Prop :=
  ∃ g, e = .returned (.slice (some ⟨g, 0, none⟩) bs.length bs.length) ∧ Below w.heap.size w w' ∧ w.heap.size ≤ g ∧ w'.heap[g]? = some (.cells (u8s bs).toArray 5 (0, 0))

set_option maxHeartbeats 400000 in
theorem dbytes_any {w : World} {base d : Nat} {a : Option Addr} {c : Nat} {bs : List UInt8} {sure most : Nat} (h : DiskAt w base d a c bs sure most) (hbl : bs.length ≤ 1048576) :
    Calls Try.prog 9 #[.pointer (some ⟨d, 0, none⟩)] w (RetBytes w bs) := by
  obtain ⟨c0, c1, c2, c3, f0, f1⟩ := h.cells
  have hd := lt_of_heap h.1
  have hrd := h.2.2.1.rd
  obtain ⟨i0, hi, hz0, hz1, hz2⟩ := info_parts Try.infoU8
  have hinf : (Try.prog.info? 5).map (·.size) = some 1 := by kernel_rfl
  replace hi := Lib.hid hi; replace hz0 := Lib.hid hz0; replace hz1 := Lib.hid hz1; replace hz2 := Lib.hid hz2; replace hinf := Lib.hid hinf
  replace hrd := Lib.hid hrd; replace h := Lib.hid h
  go_enter Try.func9, Try.ntmps9
  go_wp2_with (first
    | (go_at_call 13; refine (dnone_any _ _ c3).mono ?_; rintro e w' ⟨rfl, rfl⟩)
    | (at_make; (with_reducible refine wpList_make_S _ rfl (.tmp 10) (.tmp 10) 27 rfl 5 i0 _ 1 Try.underlying27 hi.out hz0.out hz1.out .i64 .i64 _ _ bs.length rfl rfl rfl rfl ?b2 ?b3 ?_)))
  case b2 => rw [hz2.out]; omega
  case b3 => unfold maxLen; omega
  intro w1 cur _ hcl hrow hgr
  have hb1 : Below w.heap.size w w1 := (Below.refl _ _).grown hgr (Nat.le_refl _) (fun k h => by cases h)
  have k0 := (hb1.cell (p := ⟨d, 0, none⟩) hd).trans c0
  have hrd1 := hrd.out.below hb1
  replace hrd1 := Lib.hid hrd1
  have hmin : Nat.min bs.length bs.length = bs.length := Nat.min_self _
  replace hmin := Lib.hid hmin
  have hul := u8s_length bs
  replace hul := Lib.hid hul
  go_wp2_with (with_reducible refine wpList_copy_S _ rfl (.tmp 12) (.tmp 16) 27 27 rfl 5 1 Try.underlying27 hinf.out _ _ _ _ _ _ rfl rfl w.heap.size 0 cur 5 hrow.out (u8s bs) bs.length hmin.out ?_ (fun _ => rfl) hrd1.out ?_ (u8s_one _) w.heap.size w hb1 (Nat.le_refl _) ?_)
  case refine_1 => rw [hul.out]; simp
  case refine_2 => rw [hcl.out]; simp [hul.out]
  intro w2 hg2 _ hb2
  rw [bytes_row hcl.out] at hg2
  go_wp2
  go_ret
  exact ⟨_, rfl, hb2, Nat.le_refl _, hg2.out⟩

set_option maxHeartbeats 400000 in
theorem dcrash_any {w : World} {base d : Nat} {a : Option Addr} {c : Nat} {bs : List UInt8} {sure most : Nat} (h : DiskAt w base d a c bs sure most) (hsu : sure ≤ bs.length) (k : Nat) (hk : k ≤ 1048576) (hbl : bs.length ≤ 1048576) :
    Calls Try.prog 7 #[.pointer (some ⟨d, 0, none⟩), .int .i64 k] w
      (RetDisk w base d a 0 (bs.take (min bs.length (sure + k))) (min bs.length (sure + k)) most) := by
  obtain ⟨c0, c1, c2, c3, f0, f1⟩ := h.cells
  have hm : min bs.length (sure + k) ≤ bs.length := Nat.min_le_left _ _
  have hkeep := fun n => keep_any (h.drewN n) (min bs.length (sure + k)) hm
  replace hkeep := Lib.hid hkeep
  replace h := Lib.hid h
  have hw1 : IntKind.i64.wrap ((bs.length : Int) - sure) = (bs.length : Int) - sure := IntWalk.i64_in _ (by omega)
  rcases Nat.lt_or_ge (bs.length - sure) k with hks | hks
  · have hkm : ¬ (k : Int) ≤ (bs.length : Int) - sure := by omega
    have hw2 : IntKind.i64.wrap ((sure : Int) + ((bs.length : Int) - sure)) = ((min bs.length (sure + k) : Nat) : Int) := by rw [IntWalk.i64_in _ (by omega)]; omega
    clear hks
    go_enter Try.func7, Try.ntmps7
    go_wp2_with (go_at_call 13; refine (dnone_any _ _ c3).mono ?_; rintro e w' ⟨rfl, rfl⟩)
    refine wp_region_tail 18 (by kernel_rfl) (by kernel_rfl) ?_
    simp only [List.take_succ_cons, List.take_zero, List.drop_succ_cons, List.drop_zero]
    repeat still_step
    refine wpStill_nil ?_
    go_wp2_with fail
    refine (hkeep.out 1).mono ?_
    rintro e w' ⟨rfl, hd, hf⟩
    go_wp2
    go_ret
    exact ⟨rfl, ⟨hf.os, hf.tape, hf.output, hf.size, fun k hk hn => hf.block k hk (fun e => hn (.inl e))⟩, a, _, hd, .inl rfl⟩
  · have hkm : (k : Int) ≤ (bs.length : Int) - sure := by omega
    have hw2 : IntKind.i64.wrap ((sure : Int) + k) = ((min bs.length (sure + k) : Nat) : Int) := by rw [IntWalk.i64_in _ (by omega)]; omega
    clear hks
    go_enter Try.func7, Try.ntmps7
    go_wp2_with (go_at_call 13; refine (dnone_any _ _ c3).mono ?_; rintro e w' ⟨rfl, rfl⟩)
    refine wp_region_tail 18 (by kernel_rfl) (by kernel_rfl) ?_
    simp only [List.take_succ_cons, List.take_zero, List.drop_succ_cons, List.drop_zero]
    repeat still_step
    refine wpStill_nil ?_
    go_wp2_with fail
    refine (hkeep.out 1).mono ?_
    rintro e w' ⟨rfl, hd, hf⟩
    go_wp2
    go_ret
    exact ⟨rfl, ⟨hf.os, hf.tape, hf.output, hf.size, fun k hk hn => hf.block k hk (fun e => hn (.inl e))⟩, a, _, hd, .inl rfl⟩

/-- a new disk comes back -/
def RetNew (w : World) (most : Nat) (e : Ending) (w' : World) : Prop :=
  ∃ d, e = .returned (.tuple #[.pointer (some ⟨d, 0, none⟩), .int .i64 0]) ∧ Below w.heap.size w w' ∧ DiskAt w' w.heap.size d none 0 [] 0 most

set_option maxHeartbeats 400000 in
theorem dnew_any (w : World) (most : Nat) (h : most ≤ 262144) : Calls Try.prog 4 #[.int .i64 most] w (RetNew w most) := by
  have h1 : ¬ (most : Int) < 0 := by omega
  have h2 : ¬ (262144 : Int) < most := by omega
  have hh := fun o => heap_alloc_new w o
  replace hh := Lib.hid hh
  clear h
  go_enter Try.func4, Try.ntmps4
  go_wp2
  go_ret2
  exact ⟨_, rfl, below_alloc _ _, hh.out _, Nat.le_refl _, Own.nil _ _ _ _, by simp [blk]⟩
end Go.Proofs.Ytkpmohbcejbagaa

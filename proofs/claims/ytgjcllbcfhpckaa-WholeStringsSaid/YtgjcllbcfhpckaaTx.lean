/- The contract of flat.Text at documents of ASCII letters, with strings.Builder's WriteRune at such letters (the walks of copyCheck, AppendRune and WriteRune follow the shelf's own, at this dump, whose copyCheck bears a refused statement). Conditions: every letter is below 128; at most 2^20 tokens. -/
import Derived.Test.YtgjcllbcfhpckaaFr
import Derived.Test.YtgjcllbcfhpckaaFl
import Derived.Test.YtgjcllbcfhpckaaSh
namespace Go.Proofs.Ytgjcllbcfhpckaa
open Go.RowKit
set_option linter.unusedSimpArgs false

theorem Try.infoU8 : (Try.prog.info? 5).map (fun i => (i.zero, i.size, i.bytes)) = some (some (.int .u8 0), 1, 1) := by kernel_rfl
theorem Try.infoB : (Try.prog.info? 56).map (·.size) = some 2 := by kernel_rfl
theorem Try.liesB : liesAt Try.prog Try.prog.depth 56 (2 / Try.prog.cellsOf 56) 0 56 1 = true := by kernel_rfl

set_option maxHeartbeats 400000 in
theorem copyCheck_new (d : Nat) (w : World) (h0 : w.cell? ⟨d, 0, none⟩ = some (.pointer none)) (hsh : w.shape? d = some (56, 2)) (f0 : w.frozen? ⟨d, 0, none⟩ = false) :
    Calls Try.prog 25 #[.pointer (some ⟨d, 0, none⟩)] w fun e w' => e = .returned (.tuple #[]) ∧ w' = w.setCell ⟨d, 0, none⟩ (.pointer (some ⟨d, 0, none⟩)) := by
  obtain ⟨j, hj, hjs⟩ := Option.map_eq_some_iff.1 Try.infoB
  go_enter Try.func25, Try.ntmps25
  go_wp2
  rw [Lib.run_to_unsafe w ⟨d, 0, none⟩ Try.underlying54 Try.underlying74 hj (by rw [hjs]; decide) hsh (Nat.zero_lt_succ 1)]
  simp only [Result.andThen]
  rw [Oper.upon_value]
  go_wp2
  rw [run_callFunc_extern Try.func29 (by kernel_rfl) (by kernel_rfl) (by kernel_rfl) (e := Extern.AbiNoEscape.same) (by kernel_rfl)]
  rw [Lib.run_noEscape]
  simp only [Result.andThen]
  rw [Oper.upon_value]
  go_wp2
  rw [Lib.run_from_unsafe w ⟨d, 0, none⟩ Try.underlying74 Try.underlying54 hj hsh Try.liesB]
  simp only [Result.andThen]
  rw [Oper.upon_value]
  go_wp2
  go_end0
  exact ⟨rfl, rfl⟩

set_option maxHeartbeats 400000 in
theorem copyCheck_old (d : Nat) (w : World) (h0 : w.cell? ⟨d, 0, none⟩ = some (.pointer (some ⟨d, 0, none⟩))) :
    Calls Try.prog 25 #[.pointer (some ⟨d, 0, none⟩)] w fun e w' => e = .returned (.tuple #[]) ∧ w' = w := by
  obtain ⟨j, hj, _⟩ := Option.map_eq_some_iff.1 Try.infoB
  go_enter Try.func25, Try.ntmps25
  go_wp2
  rw [Lib.run_neq_ptr_same w _ Try.underlying54 hj]
  go_wp2
  go_end0
  exact ⟨rfl, rfl⟩

theorem copyCheck_any (B b : Nat) (bs : List Value) (w : World) (h : Lib.IsBuilderF 56 5 B b bs w) :
    Calls Try.prog 25 #[.pointer (some ⟨b, 0, none⟩)] w fun e w' => e = .returned (.tuple #[]) ∧ (Lib.BuilderAtF 56 5 B b (.pointer (some ⟨b, 0, none⟩)) bs w' ∧ Below B w w' ∧ Lib.OthersKept 5 (some b) w w') := by
  rcases h with h | h
  · refine (copyCheck_new b w h.cell0 h.shape h.frozen0).mono ?_
    rintro e w' ⟨rfl, rfl⟩
    exact ⟨rfl, h.used _, (Below.refl B w).setCell (p := ⟨b, 0, none⟩) h.1 _, (Lib.OthersKept.refl _ _ w).setCell ⟨b, 0, none⟩ rfl _⟩
  · refine (copyCheck_old b w h.cell0).mono ?_
    rintro e w' ⟨rfl, rfl⟩
    exact ⟨rfl, h, Below.refl B _, Lib.OthersKept.refl _ _ _⟩

set_option maxHeartbeats 400000 in
theorem appendRune_ascii (B : Nat) (v : Value) (n : Nat) (xs : List Value) (r : Int) (h0 : 0 ≤ r) (h1 : r ≤ 127) (w : World) (hown : w.ownsRowF B 5 1 v n xs) (hlen : n + 4 ≤ 140737488355328) (hBw : B ≤ w.heap.size) :
    Calls Try.prog 26 #[v, .int .i32 r] w fun e w' => ∃ v', e = .returned v' ∧ w'.ownsRowF B 5 1 v' (n + 1) (xs ++ [.int .u8 r]) ∧ ∃ o, (w.alloc o).grownBy w' v.ownBlock := by
  obtain ⟨i0, hi, hz0, hz1, hz2⟩ := info_parts Try.infoU8
  go_enter Try.func26, Try.ntmps26
  go_wp2_with (at_builtin; refine wpList_append_ownF _ rfl _ _ 22 rfl B 5 i0 (.int .u8 0) 1 1 Try.underlying22 hi hz0 hz1 hz2 rfl (by decide) _ _ _ rfl (hown.alloc _) ⟨w.heap.size, 0, none⟩ 1 1 [.int .u8 r] rfl rfl ?c1 ?c2 ?c3 ?c4 ?c5 ?_)
  all_goals first
    | (intro v' w2 hown' hgrow _; go_wp2; go_ret; exact ⟨_, rfl, hown', _, hgrow⟩)
    | (unfold maxLen; omega)
    | omega
    | (simp; omega)
    | rfl
    | (intro u hu; simp at hu; subst hu; rfl)
    | (intro j u hj
       match j, hj with
       | 0, hj => simp at hj; subst hj; simp [Addr.add]
       | (j + 1), hj => simp at hj)

set_option maxHeartbeats 1000000 in
theorem writeRune_ascii (B b : Nat) (bs : List Value) (r : Int) (h0 : 0 ≤ r) (h1 : r ≤ 127) (w : World) (h : Lib.IsBuilderF 56 5 B b bs w) (hlen : bs.length + 4 ≤ 140737488355328) (hBw : B ≤ w.heap.size) :
    Calls Try.prog 19 #[.pointer (some ⟨b, 0, none⟩), .int .i32 r] w fun e w' => e = .returned (.tuple #[.int .i64 1, .nilIface]) ∧ Lib.BuilderAtF 56 5 B b (.pointer (some ⟨b, 0, none⟩)) (bs ++ [.int .u8 r]) w' ∧ Below B w w' ∧ Lib.OthersKept 5 (some b) w w' := by
  go_enter Try.func19, Try.ntmps19
  go_wp2_with (go_at_call 25; refine (copyCheck_any B b bs _ h).mono ?_)
  rintro e w1 ⟨rfl, h1', hb1, hk1⟩
  obtain ⟨hB, v, hbk, hown, hne⟩ := h1'
  obtain ⟨ao, cap, rfl⟩ : ∃ ao cap, v = .slice ao bs.length cap := by
    rcases hown.2 with ⟨hv, h0⟩ | ⟨g, cap, cur, fz, hv, _⟩
    · exact ⟨none, 0, by rw [hv, h0]⟩
    · exact ⟨_, _, hv⟩
  have c0 : w1.cell? ⟨b, 0, none⟩ = some (.pointer (some ⟨b, 0, none⟩)) := by rw [Lib.cell_of_heap hbk]; rfl
  have c1 : w1.cell? ⟨b, 1, none⟩ = some (.slice ao bs.length cap) := by rw [Lib.cell_of_heap hbk]; rfl
  go_wp2_with (go_at_call 26; refine (appendRune_ascii B _ bs.length bs r h0 h1 _ hown hlen (by have := hb1.size; omega)).mono ?_)
  rintro e w2 ⟨v', rfl, hown', o, hgrow⟩
  have hlt : b < w1.heap.size := lt_of_heap hbk
  have hb2 : w2.heap[b]? = some (.cells #[.pointer (some ⟨b, 0, none⟩), .slice ao bs.length cap] 56 (0, 0)) := by
    rw [hgrow.block b (by simp; omega) (fun e => hne e.symm), Lib.alloc_old w1 _ b hlt]
    exact hbk
  have d0 : w2.cell? ⟨b, 0, none⟩ = some (.pointer (some ⟨b, 0, none⟩)) := by rw [Lib.cell_of_heap hb2]; rfl
  have d1 : w2.cell? ⟨b, 1, none⟩ = some (.slice ao bs.length cap) := by rw [Lib.cell_of_heap hb2]; rfl
  have f1 : w2.frozen? ⟨b, 1, none⟩ = false := Lib.frozen_of_heap hb2 1
  obtain ⟨g, cap', rfl⟩ : ∃ g cap', v' = .slice (some ⟨g, 0, none⟩) (bs.length + 1) cap' := by
    rcases hown'.2 with ⟨_, h0⟩ | ⟨g, cap', cur, fz, hv, _⟩
    · omega
    · exact ⟨g, cap', hv⟩
  go_wp2
  go_ret2
  refine ⟨?_, ?_, ?_, ((hk1.alloc _).grown hgrow (Lib.ownsRowF_kind (hown.alloc _))).setCell ⟨b, 1, none⟩ rfl _⟩
  · have e : ((bs.length : Int) + 1 - (bs.length : Int)) = 1 := by omega
    simp [e]
  · exact Lib.BuilderAtF.put (T := 56) (e := 5) hB hb2 (bs' := bs ++ [.int .u8 r]) (by simpa using hown') (by decide)
  · exact ((hb1.alloc (by have := hb1.size; omega) _).grown hgrow (by have := hb1.size; simp; omega) (fun k hk => (hown.lt k hk).1)).setCell (p := ⟨b, 1, none⟩) hB _

/-- the letters of a document -/
def isLetter (t : Tok) : Bool := decide (t.k = 0) && right t
def textOf (l : List Tok) : List UInt8 := l.flatMap fun t => if isLetter t then [UInt8.ofNat t.n.toNat] else []
theorem textOf_append (l r : List Tok) : textOf (l ++ r) = textOf l ++ textOf r := by simp [textOf]
theorem textOf_cons (t : Tok) (l : List Tok) : textOf (t :: l) = (if isLetter t then [UInt8.ofNat t.n.toNat] else []) ++ textOf l := by simp [textOf]
theorem textOf_length (l : List Tok) : (textOf l).length ≤ l.length := by
  induction l with
  | nil => simp [textOf]
  | cons t l ih => rw [textOf_cons, List.length_append, List.length_cons]; split <;> simp <;> omega
theorem textOf_snoc (l : List Tok) (k : Nat) (h : k < l.length) : textOf (l.take (k + 1)) = textOf (l.take k) ++ (if isLetter l[k] then [UInt8.ofNat l[k].n.toNat] else []) := by
  rw [List.take_succ_eq_append_getElem h, textOf_append]; simp [textOf]

theorem builderAt_below {B b : Nat} {p : Value} {bs : List Value} {w w' : World} (h : Lib.BuilderAtF 56 5 B b p bs w) (hb : Below w.heap.size w w') : Lib.BuilderAtF 56 5 B b p bs w' := by
  have hlt := h.lt
  obtain ⟨hB, v, hbk, hown, hne⟩ := h
  exact ⟨hB, v, (hb.block b hlt).trans hbk, hown.kept (row := none) ⟨hb.os, hb.tape, hb.output, hb.size, fun k hk _ => hb.block k hk⟩ (by cases hv : v.ownBlock <;> simp), hne⟩
theorem builder_below {B b : Nat} {bs : List Value} {w w' : World} (h : Lib.IsBuilderF 56 5 B b bs w) (hb : Below w.heap.size w w') : Lib.IsBuilderF 56 5 B b bs w' :=
  h.elim (fun x => .inl (builderAt_below x hb)) (fun x => .inr (builderAt_below x hb))
theorem builder_lt {B b : Nat} {bs : List Value} {w : World} (h : Lib.IsBuilderF 56 5 B b bs w) : b < w.heap.size := h.elim (·.lt) (·.lt)

set_option maxHeartbeats 1000000 in
theorem text_any (v : Value) (l : List Tok) (w : World) (hv : IsToks w v l) (hlen : l.length ≤ 1048576) (hasc : ∀ t ∈ l, isLetter t = true → t.n ≤ 127) :
    Calls Try.prog 10 #[v] w fun e w' => e = .returned (.string ⟨(textOf l).toArray⟩) ∧ Below w.heap.size w w' := by
  obtain ⟨a, c, rfl, hlc, hc, ht⟩ := hv
  unfold maxLen at hc
  replace ht := Lib.hid ht
  replace hasc := Lib.hid hasc
  go_enter Try.func10, Try.ntmps10
  go_wp2
  go_loopw [8] (fun i wr => ∃ k : Nat, k ≤ l.length ∧ i = .int .i64 k ∧ Below w.heap.size w wr ∧ Hid (Lib.IsBuilderF 56 5 w.heap.size w.heap.size (Lib.byteCells (textOf (l.take k))) wr)) (fun i _ => l.length - (intOf i).toNat)
  case atStart =>
    refine ⟨0, by omega, rfl, below_alloc _ _, Lib.hid (.inl ⟨Nat.le_refl _, _, heap_alloc_new _ _, World.ownsRowF_nil _ _ _ _, by simp [Value.ownBlock]⟩)⟩
  case round =>
    obtain ⟨k, hk, rfl, hbel, hbd⟩ := hrel
    by_cases hlt : k < l.length
    · have hr := ht.out
      rcases hr with hr | ⟨b, off, rfl, hb, hr⟩
      · rw [hr] at hlt; simp at hlt
      obtain ⟨g0, g1, g2, g3⟩ := tok_cells hr k hlt
      clear hr
      have e0 := (hbel.cell (p := ⟨b, off + k * 4, none⟩) hb).trans g0
      have e1 := (hbel.cell (p := ⟨b, off + k * 4 + 1, none⟩) hb).trans g1
      have e2 := (hbel.cell (p := ⟨b, off + k * 4 + 2, none⟩) hb).trans g2
      have e3 := (hbel.cell (p := ⟨b, off + k * 4 + 3, none⟩) hb).trans g3
      clear g0 g1 g2 g3 ht
      have hsn := textOf_snoc l k hlt
      have has := hasc.out l[k] (List.getElem_mem _)
      obtain ⟨t, htk⟩ : ∃ t, t = l[k] := ⟨_, rfl⟩
      rw [← htk] at e0 e1 e2 e3 hsn has
      clear htk hasc
      have hw : w.heap.size < wr.heap.size := builder_lt hbd.out
      have hbs := hbel.size
      have hbd' := fun o => hbd.out.alloc o
      have hln : (Lib.byteCells (textOf (l.take k))).length ≤ 1048576 := by
        have := textOf_length (l.take k); rw [List.length_take] at this
        rw [Lib.byteCells_length]; omega
      obtain ⟨cs, hcs⟩ : ∃ cs, cs = Lib.byteCells (textOf (l.take k)) := ⟨_, rfl⟩
      rw [← hcs] at hbd hbd' hln
      obtain ⟨ns, hns⟩ : ∃ ns, ns = Lib.byteCells (textOf (l.take (k + 1))) := ⟨_, rfl⟩
      replace hbd' := Lib.hid hbd'
      obtain ⟨tk, tt, tn, tm⟩ := t
      simp only at e0 e1 e2 e3 hsn has
      by_cases hk0 : tk = 0
      · subst hk0
        obtain ⟨rt, hrt⟩ : ∃ rt, rt = right ⟨0, tt, tn, tm⟩ := ⟨_, rfl⟩
        replace hrt := Lib.hid hrt
        cases rt
        · have hnx : ns = cs := by rw [hns, hcs, hsn]; simp [isLetter, hrt.out.symm]
          clear hsn hcs
          replace hnx := Lib.hid hnx; replace hns := Lib.hid hns
          go_wp2_with (go_at_call 18; refine (right_any ⟨0, tt, tn, tm⟩ _).mono ?_; rintro e w1 ⟨rfl, hb1⟩; rw [← hrt.out])
          go_roundw
          case rel => exact ⟨k + 1, by omega, by go_num, below_in hbel hbs hb1, Lib.hid (by rw [← hns.out, hnx.out]; exact builder_below (hbd'.out _) hb1)⟩
          case measure => simp [intOf]; omega
        · have hlet : isLetter ⟨0, tt, tn, tm⟩ = true := by simp [isLetter, hrt.out.symm]
          have hn1 := has hlet
          have hn0 : 0 ≤ tn := by
            have := hrt.out; unfold right at this; simp at this; omega
          have hnx : ns = cs ++ [.int .u8 tn] := by
            rw [hns, hcs, hsn, if_pos hlet]; simp [Lib.byteCells]; omega
          have hwr : IntKind.i32.wrap tn = tn := by simp [IntKind.wrap, IntKind.bits, IntKind.signed]; omega
          clear hsn hcs hlet has
          replace hnx := Lib.hid hnx; replace hns := Lib.hid hns
          go_wp2_with (go_at_call 18; refine (right_any ⟨0, tt, tn, tm⟩ _).mono ?_; rintro e w1 ⟨rfl, hb1⟩; rw [← hrt.out]; have hc1 := bcell hb1; have hbd1 := builder_below (hbd'.out _) hb1; have hs1 := hb1.size; simp only [World.size_alloc] at hs1; replace hbd1 := Lib.hid hbd1)
          go_wp2_with (go_at_call 19; refine (writeRune_ascii w.heap.size w.heap.size cs tn hn0 hn1 _ hbd1.out (by omega) (by omega)).mono ?_; rintro e w2 ⟨rfl, hb2, hbl2, _⟩)
          go_roundw
          case rel => exact ⟨k + 1, by omega, by go_num, (below_in hbel hbs hb1).trans hbl2, Lib.hid (by rw [← hns.out, hnx.out]; exact .inr hb2)⟩
          case measure => simp [intOf]; omega
      · have hnx : ns = cs := by rw [hns, hcs, hsn]; simp [isLetter, hk0]
        clear hsn hcs
        replace hnx := Lib.hid hnx; replace hns := Lib.hid hns
        go_wp2
        go_roundw
        case rel => exact ⟨k + 1, by omega, by go_num, hbel.alloc hbs _, Lib.hid (by rw [← hns.out, hnx.out]; exact hbd'.out _)⟩
        case measure => simp [intOf]; omega
    · obtain rfl : k = l.length := by omega
      have hbd' := hbd.out
      rw [List.take_length] at hbd'
      have hbs := hbel.size
      go_wp2_with (go_at_call 20; refine (Try.Builder_String_any_k w.heap.size w.heap.size (textOf l) _ hbd' hbs).mono ?_; rintro e w1 ⟨rfl, _, hb1, _⟩)
      go_ret
      exact ⟨rfl, hbel.trans hb1⟩

end Go.Proofs.Ytgjcllbcfhpckaa

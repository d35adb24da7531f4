/- Laws on memory: append onto a slice of the call's own (whatever its capacity), copy of elements of several cells. Conditions: what is appended or copied lies there; no new slice takes more than 2^47 bytes. -/
import Derived.Test.YtgjcllbcfhpckaaEm0
import Derived.Deep.AppendSrc
import Derived.Laws.CopyOwn
import Derived.StillTailTactics
namespace Go.Proofs.Ytgjcllbcfhpckaa
open Go.RowKit

theorem toks_one (l : List Tok) : ∀ u ∈ toks l, u.oneCell' = true := by
  intro u hu
  obtain ⟨t, _, ht⟩ := List.mem_flatMap.1 hu
  simp [Tok.cs] at ht
  rcases ht with rfl | rfl | rfl | rfl <;> rfl

def blk (a : Option Addr) : Option Nat := a.map (·.block)

/-- the cells xs lie at a -/
def Rd (w : World) (a : Option Addr) (xs : List Value) : Prop := xs = [] ∨ ∃ b off, a = some ⟨b, off, none⟩ ∧ b < w.heap.size ∧ w.rangeAt b off xs

/-- the slice of n elements at a, capacity c, reads xs, and all its room is the call's own -/
def Own (w : World) (base : Nat) (e : TypeId) (sz : Nat) (a : Option Addr) (n c : Nat) (xs : List Value) : Prop :=
  xs.length = n * sz ∧ n ≤ c ∧ c ≤ maxLen ∧
  ((a = none ∧ n = 0 ∧ c = 0) ∨
   ∃ g off cur, a = some ⟨g, off, none⟩ ∧ base ≤ g ∧ w.heap[g]? = some (.cells cur e (0, 0)) ∧ off + c * sz ≤ cur.size ∧ (cur.toList.drop off).take (n * sz) = xs)

theorem Own.nil (w : World) (base : Nat) (e : TypeId) (sz : Nat) : Own w base e sz none 0 0 [] := ⟨by simp, by omega, by simp [maxLen], .inl ⟨rfl, rfl, rfl⟩⟩

theorem rangeAt_row {w : World} {g off : Nat} {cur : Array Value} {e : TypeId} {fr : Nat × Nat} (h : w.heap[g]? = some (.cells cur e fr)) (k : Nat) : w.rangeAt g off ((cur.toList.drop off).take k) := by
  intro j v hv
  rw [cell_of_heap h]
  have hlt := (List.getElem?_eq_some_iff.1 hv).1
  have hj : j < k := by simp at hlt; omega
  rw [List.getElem?_take_of_lt hj, List.getElem?_drop] at hv
  simpa using hv

theorem Own.rd {w : World} {base : Nat} {e : TypeId} {sz : Nat} {a : Option Addr} {n c : Nat} {xs : List Value} (h : Own w base e sz a n c xs) : Rd w a xs := by
  obtain ⟨hl, _, _, h⟩ := h
  rcases h with ⟨_, hn, _⟩ | ⟨g, off, cur, ha, _, hg, _, hx⟩
  · left; subst hn; exact List.eq_nil_of_length_eq_zero (by simpa using hl)
  · right; exact ⟨g, off, ha, lt_of_heap hg, by rw [← hx]; exact rangeAt_row hg _⟩

theorem Own.mono {w : World} {base base' : Nat} {e : TypeId} {sz : Nat} {a : Option Addr} {n c : Nat} {xs : List Value} (h : Own w base e sz a n c xs) (hb : base' ≤ base) : Own w base' e sz a n c xs := by
  obtain ⟨hl, h1, h2, h⟩ := h
  refine ⟨hl, h1, h2, ?_⟩
  rcases h with h | ⟨g, off, cur, ha, hbg, r⟩
  · exact .inl h
  · exact .inr ⟨g, off, cur, ha, by omega, r⟩

theorem Own.base_le {w : World} {base : Nat} {e : TypeId} {sz : Nat} {a : Option Addr} {n c : Nat} {xs : List Value} (h : Own w base e sz a n c xs) {b : Nat} (hb : blk a = some b) : base ≤ b := by
  obtain ⟨_, _, _, h⟩ := h
  rcases h with ⟨rfl, _⟩ | ⟨g, off, cur, rfl, hbg, r⟩
  · simp [blk] at hb
  · simp [blk] at hb; omega

theorem Own.lt {w : World} {base : Nat} {e : TypeId} {sz : Nat} {a : Option Addr} {n c : Nat} {xs : List Value} (h : Own w base e sz a n c xs) {b : Nat} (hb : blk a = some b) : b < w.heap.size := by
  obtain ⟨_, _, _, h⟩ := h
  rcases h with ⟨rfl, _⟩ | ⟨g, off, cur, rfl, hbg, hg, r⟩
  · simp [blk] at hb
  · simp [blk] at hb; subst hb; exact lt_of_heap hg

/-- what is owned stays owned in a world whose block is the same -/
theorem Own.same {w w' : World} {base : Nat} {e : TypeId} {sz : Nat} {a : Option Addr} {n c : Nat} {xs : List Value} (h : Own w base e sz a n c xs) (hs : ∀ b, blk a = some b → w'.heap[b]? = w.heap[b]?) : Own w' base e sz a n c xs := by
  obtain ⟨hl, h1, h2, h⟩ := h
  refine ⟨hl, h1, h2, ?_⟩
  rcases h with h | ⟨g, off, cur, ha, hbg, hg, r⟩
  · exact .inl h
  · exact .inr ⟨g, off, cur, ha, hbg, by rw [hs g (by rw [ha]; rfl)]; exact hg, r⟩
theorem Own.below {w w' : World} {base : Nat} {e : TypeId} {sz : Nat} {a : Option Addr} {n c : Nat} {xs : List Value} (h : Own w base e sz a n c xs) (hb : Below w.heap.size w w') : Own w' base e sz a n c xs :=
  h.same fun b hb' => hb.block b (h.lt hb')
theorem Own.grown {w w' : World} {base : Nat} {e : TypeId} {sz : Nat} {a : Option Addr} {n c : Nat} {xs : List Value} (h : Own w base e sz a n c xs) {row : Option Nat} (hg : w.grownBy w' row) (hne : row = none ∨ row ≠ blk a) : Own w' base e sz a n c xs :=
  h.same fun b hb' => hg.block b (h.lt hb') (by
    rintro rfl
    rcases hne with h | h
    · cases h
    · exact h hb'.symm)
theorem Rd.below {w w' : World} {a : Option Addr} {xs : List Value} (h : Rd w a xs) (hb : Below w.heap.size w w') : Rd w' a xs := by
  rcases h with h | ⟨b, off, ha, hlt, hr⟩
  · exact .inl h
  · exact .inr ⟨b, off, ha, Nat.lt_of_lt_of_le hlt hb.size, fun j v hv => by rw [hb.cell (p := ⟨b, off + j, none⟩) hlt]; exact hr j v hv⟩

/-- a prefix of what is owned -/
theorem Own.take {w : World} {base : Nat} {e : TypeId} {sz : Nat} {a : Option Addr} {n c : Nat} {xs : List Value} (h : Own w base e sz a n c xs) {k : Nat} (hk : k ≤ n) : Own w base e sz a k c (xs.take (k * sz)) := by
  obtain ⟨hl, h1, h2, h⟩ := h
  have hm : k * sz ≤ n * sz := Nat.mul_le_mul_right _ hk
  refine ⟨by rw [List.length_take, hl]; omega, by omega, h2, ?_⟩
  rcases h with ⟨ha, hn, hc⟩ | ⟨g, off, cur, ha, hbg, hg, hf, hx⟩
  · exact .inl ⟨ha, by omega, hc⟩
  · exact .inr ⟨g, off, cur, ha, hbg, hg, hf, by rw [← hx, List.take_take, Nat.min_eq_left hm]⟩

/-- and with less room -/
theorem Own.room {w : World} {base : Nat} {e : TypeId} {sz : Nat} {a : Option Addr} {n c : Nat} {xs : List Value} (h : Own w base e sz a n c xs) {c' : Nat} (h1 : n ≤ c') (h2 : c' ≤ c) : Own w base e sz a n c' xs := by
  obtain ⟨hl, _, h3, h⟩ := h
  refine ⟨hl, h1, by omega, ?_⟩
  rcases h with ⟨ha, hn, hc⟩ | ⟨g, off, cur, ha, hbg, hg, hf, hx⟩
  · exact .inl ⟨ha, hn, by omega⟩
  · exact .inr ⟨g, off, cur, ha, hbg, hg, by have := Nat.mul_le_mul_right sz h2; omega, hx⟩

section
variable {P : Program} (w : World)

theorem Src.ofRd {sz : Nat} {tx e' : TypeId} (hk : P.underlying tx = some (.slice e')) {a : Option Addr} {n c : Nat} {news : List Value} (hl : news.length = n * sz) (h : Rd w a news) (h1 : ∀ u ∈ news, u.oneCell' = true) :
    Src P sz tx (.slice a n c) n news w := by
  have hd : Rd w.drew a news := by
    rcases h with h | ⟨b, off, ha, hlt, hr⟩
    · exact .inl h
    · exact .inr ⟨b, off, ha, hlt, by simpa using hr⟩
  have key : ∀ w' : World, Rd w' a news → (Builtin.firstCells sz n (.slice a n c)).run P w' = .ok news.toArray w' := by
    intro w' h
    cases a with
    | none =>
      rcases h with h | ⟨b, off, ha, _⟩
      · subst h; exact run_firstCells_none w' sz n n c
      · cases ha
    | some ad =>
      refine run_firstCells_some w' sz n ad n c news hl fun j v hv => ?_
      rcases h with h | ⟨b, off, ha, _, hr⟩
      · subst h; simp at hv
      · cases ha; rw [Addr.add_mid]; exact hr j v hv
  exact ⟨.inl ⟨e', hk⟩, fun _ => rfl, key w h, key w.drew hd, hl, h1⟩

theorem run_append_S (t tx ty e : TypeId) (i : TypeInfo) (z : Value) (sz bytes : Nat) (ht : P.underlying t = some (.slice e)) (hi : P.info? e = some i) (hz : i.zero = some z)
    (hsize : i.size = sz) (hby : i.bytes = bytes) (hzs : z.cells.size = sz) (base : Nat) (a : Option Addr) (n c : Nat) (xs : List Value) (hown : Own w base e sz a n c xs)
    (x : Value) (m : Nat) (news : List Value) (hs : Src P sz tx x m news w) (h63 : n + m ≤ maxLen) (hbytes : (n + m) * bytes ≤ 140737488355328) (hbase : base ≤ w.heap.size) :
    ∃ a' c' w', (Builtin.append_ #[t, tx] ty #[.slice a n c, x]).run P w = .ok (.slice a' (n + m) c') w' ∧ Own w' base e sz a' (n + m) c' (xs ++ news) ∧ w.grownBy w' (blk a) ∧
      (blk a' = blk a ∨ blk a' = some w.heap.size) ∧ (a' = none → a = none ∧ m = 0) := by
  subst hsize hby
  obtain ⟨hl, hnc, hcm, hown⟩ := hown
  have hlen : (xs ++ news).length = (n + m) * i.size := by rw [List.length_append, hl, hs.newsLen, Nat.add_mul]
  by_cases hroom : n + m ≤ c
  · rcases hown with ⟨rfl, rfl, rfl⟩ | ⟨g, off, cur, rfl, hbg, hg, hf, hx⟩
    · obtain rfl : m = 0 := by omega
      have hn : news = [] := List.eq_nil_of_length_eq_zero (by simpa using hs.newsLen)
      subst hn
      have hxs : xs = [] := List.eq_nil_of_length_eq_zero (by simpa using hl)
      subst hxs
      refine ⟨none, 0, w, ?_, Own.nil _ _ _ _, World.grownBy.refl _ _, .inl rfl, fun _ => ⟨rfl, rfl⟩⟩
      have hc := hs.cells
      rcases hs.kind with ⟨e', hk⟩ | hk <;> simp [Builtin.append_, run_underlying ht, run_underlying hk, sizeOf, typeInfo, hi, hs.len, hc]
    · have hfit : n * i.size + news.length ≤ c * i.size := by rw [hs.newsLen, ← Nat.add_mul]; exact Nat.mul_le_mul_right _ hroom
      have hr := run_append_room_src (P := P) w t tx ty e i ht hi g off n c x m news hs hroom
        (fun j hj => by rw [cell_of_heap hg]; simp; omega) (fun j hj => frozen_of_heap hg rfl)
      have hset := run_storeCells_at (P := P) g (off + n * i.size) e news 0 cur w hg (by simp; omega) hs.one
      have hset2 := run_storeCells_cells (P := P) g (off + n * i.size) news 0 w (fun j hj => by rw [cell_of_heap hg]; simp; omega) (fun j hj => frozen_of_heap hg rfl) hs.one
      rw [hset] at hset2
      simp only [Nat.add_zero, Result.ok.injEq, true_and] at hset2
      rw [← hset2] at hr
      refine ⟨_, _, _, hr, ⟨hlen, hroom, hcm, .inr ⟨g, off, _, rfl, hbg, setRow_heap w g cur _ e _ hg, ?_, ?_⟩⟩, ⟨rfl, rfl, rfl, by simp, fun k _ hk => setRow_other w g k _ (fun e => hk (by simp [blk, e]))⟩, .inl rfl, by simp⟩
      · simp only [List.size_toArray, List.length_append, List.length_take, List.length_drop, Array.length_toList]
        omega
      · rw [← hx, Nat.add_mul, ← hs.newsLen]
        simp only [List.append_assoc]
        rw [List.drop_append_of_le_length (by simp; omega), List.drop_take, Nat.add_sub_cancel_left, ← List.append_assoc, List.take_left' (by simp; omega)]
  · have hold : (Builtin.firstCells i.size n (.slice a n c)).run P w.drew = .ok xs.toArray w.drew := by
      rcases hown with ⟨rfl, rfl, rfl⟩ | ⟨g, off, cur, rfl, hbg, hg, hf, hx⟩
      · have hxs : xs = [] := List.eq_nil_of_length_eq_zero (by simpa using hl)
        subst hxs
        exact run_firstCells_none w.drew _ _ _ _
      · refine run_firstCells_some w.drew _ _ _ _ _ _ hl fun j v hv => ?_
        rw [Addr.add_mid, World.cell?_drew]
        exact (by rw [← hx] at hv; exact rangeAt_row hg _ j v hv)
    have hr := run_append_grow_src (P := P) w t tx ty e i z ht hi hz a n c xs hold x m news hs (by omega) (by simp only [maxLen] at h63; omega) (growslice_fits (by omega) hbytes)
    have hge := grownCap_ge w (n + m) c e
    have hcm : grownCap w (n + m) c e ≤ maxLen := grownCap_le_maxLen w (n + m) c e h63
    refine ⟨_, _, _, hr, ⟨hlen, hge, hcm, .inr ⟨w.heap.size, 0, _, rfl, hbase, heap_alloc_new w.drew _, ?_, ?_⟩⟩, ⟨rfl, rfl, rfl, by simp, fun k hk _ => Below.heap_alloc w.drew _ k hk⟩, .inr rfl, by simp⟩
    · simp only [Array.size_append, List.size_toArray, size_zeroCells, hzs, hlen, ← Nat.add_mul]
      rw [Nat.zero_add]
      exact Nat.mul_le_mul_right _ (by omega)
    · simp only [List.drop_zero, Array.toList_append]
      rw [← hlen]
      exact List.take_left

theorem wpList_append_S {ops : Array Oper} {rest : List Oper} {o : Oper} {a : Act} {Q : Exit → Act → World → Prop} (hgd : o.guard = none) (s x : Operand) (t tx : TypeId)
    (ho : o.op = .call { callee := .builtin .append, args := #[s, x], argTypes := #[t, tx] })
    (base : Nat) (e : TypeId) (i : TypeInfo) (z : Value) (sz bytes : Nat) (ht : P.underlying t = some (.slice e)) (hi : P.info? e = some i) (hz : i.zero = some z)
    (hsize : i.size = sz) (hby : i.bytes = bytes) (hzs : z.cells.size = sz)
    (av : Option Addr) (n c : Nat) (xs : List Value) (hs : a.eval s = .slice av n c) (hown : Own w base e sz av n c xs)
    (xv : Value) (m : Nat) (news : List Value) (hx : a.eval x = xv) (hsrc : Src P sz tx xv m news w) (h63 : n + m ≤ maxLen) (hbytes : (n + m) * bytes ≤ 140737488355328) (hbase : base ≤ w.heap.size)
    (h : ∀ a' c' w', Own w' base e sz a' (n + m) c' (xs ++ news) → w.grownBy w' (blk av) → (blk a' = blk av ∨ blk a' = some w.heap.size) → (a' = none → av = none ∧ m = 0) →
      wpList P ops Q rest (a.put o.dst (.slice a' (n + m) c')) w') : wpList P ops Q (o :: rest) a w := by
  refine wpList_plain hgd fun K hK => ?_
  obtain ⟨a', c', w', hrun, r1, r2, r3, r4⟩ := run_append_S (P := P) w t tx o.type e i z sz bytes ht hi hz hsize hby hzs base av n c xs hown xv m news hsrc h63 hbytes hbase
  unfold Oper.wp
  simp [execOp, ho, resolve, invoke, builtin, hs, hx, hrun, Result.andThen]
  exact hK _ _ (h a' c' w' r1 r2 r3 r4)

/-- copy: dst lies in a row that is known whole; elements of sz cells -/
theorem wpList_copy_S {ops : Array Oper} {rest : List Oper} {o : Oper} {a : Act} {Q : Exit → Act → World → Prop} (hgd : o.guard = none) (d s : Operand) (dT sT : TypeId)
    (ho : o.op = .call { callee := .builtin .copy, args := #[d, s], argTypes := #[dT, sT] }) (elem : TypeId) (sz : Nat) (hu : P.underlying dT = some (.slice elem)) (hsz : (P.info? elem).map (·.size) = some sz)
    (dp sp : Option Addr) (dLen dCap sLen sCap : Nat) (hd : a.eval d = .slice dp dLen dCap) (hs : a.eval s = .slice sp sLen sCap)
    (g off : Nat) (cur : List Value) (t : TypeId) (hg : w.heap[g]? = some (.cells cur.toArray t (0, 0))) (cs : List Value) (k : Nat) (hk : Nat.min sLen dLen = k) (hn : cs.length = k * sz)
    (hpos : 0 < cs.length → dp = some ⟨g, off, none⟩) (hrd : Rd w sp cs)
    (hfit : off + cs.length ≤ cur.length) (h1 : ∀ v ∈ cs, v.oneCell' = true) (B : Nat) (w0 : World) (hb : Below B w0 w) (hBg : B ≤ g)
    (h : ∀ w', Hid (w'.heap[g]? = some (.cells (splice cur off cs).toArray t (0, 0))) → w.grownBy w' (some g) → Below B w0 w' → wpList P ops Q rest (a.put o.dst (goInt k)) w') :
    wpList P ops Q (o :: rest) a w := by
  refine wpList_plain hgd fun K hK => ?_
  obtain ⟨i, hq, hi⟩ : ∃ i, P.info? elem = some i ∧ i.size = sz := by
    cases hq : P.info? elem with
    | none => simp [hq] at hsz
    | some i => exact ⟨i, rfl, by simpa [hq] using hsz⟩
  have hcells : (Builtin.firstCells sz k (.slice sp sLen sCap)).run P w = .ok cs.toArray w := by
    cases sp with
    | none =>
      rcases hrd with h | ⟨b, off, ha, _⟩
      · subst h; exact run_firstCells_none w sz _ _ _
      · cases ha
    | some ad =>
      refine run_firstCells_some w sz k ad _ _ cs hn fun j v hv => ?_
      rcases hrd with h | ⟨b, off, ha, _, hr⟩
      · subst h; simp at hv
      · cases ha; rw [Addr.add_mid]; exact hr j v hv
  have hrun : ∃ w', (Builtin.copy_ #[dT, sT] o.type #[.slice dp dLen dCap, .slice sp sLen sCap]).run P w = .ok (goInt k) w' ∧ w'.heap[g]? = some (.cells (splice cur off cs).toArray t (0, 0)) ∧ w.grownBy w' (some g) := by
    by_cases h0 : cs.length = 0
    · obtain rfl : cs = [] := List.eq_nil_of_length_eq_zero h0
      refine ⟨w, ?_, by simpa [splice] using hg, World.grownBy.refl _ _⟩
      cases dp <;> simp [Builtin.copy_, run_underlying hu, Builtin.lenOf, sizeOf, typeInfo, hq, hi, hk, hcells, storeCells]
    · obtain rfl := hpos (by omega)
      have hst := run_storeCells_at (P := P) g off t cs 0 cur.toArray w hg (by simpa using hfit) h1
      refine ⟨w.setRow g (cur.take off ++ cs ++ cur.drop (off + cs.length)).toArray, ?_, ?_, ?_⟩
      · simp only [Nat.add_zero] at hst
        simp [Builtin.copy_, run_underlying hu, Builtin.lenOf, sizeOf, typeInfo, hq, hi, hk, hcells, hst]
      · rw [setRow_heap w g cur.toArray _ t _ hg]; simp [splice]
      · exact ⟨rfl, rfl, rfl, by simp [World.setRow], fun k _ hk => setRow_other w g k _ (fun e => hk (by simp [e]))⟩
  obtain ⟨w', hrun, r1, r2⟩ := hrun
  unfold Oper.wp
  simp [execOp, ho, resolve, invoke, builtin, hd, hs, hrun, Result.andThen]
  refine hK _ _ (h w' (Lib.hid r1) r2 (hb.trans ⟨r2.os, r2.tape, r2.output, r2.size, fun j hj => ?_⟩))
  rcases Nat.lt_or_ge j w.heap.size with h' | h'
  · exact r2.block j h' (fun e => by cases e; omega)
  · exact absurd (lt_of_heap hg) (by omega)

theorem wpList_make_S {ops : Array Oper} {rest : List Oper} {o : Oper} {a : Act} {Q : Exit → Act → World → Prop}
    (hg : o.guard = none) (l c : Operand) (t : TypeId) (hop : o.op = Op.makeSlice t l c)
    (e : TypeId) (i : TypeInfo) (z : Value) (size : Nat) (h1 : P.underlying t = some (.slice e)) (h2 : P.info? e = some i) (h3 : i.zero = some z) (h4 : i.size = size)
    (kl kc : IntKind) (L C : Int) (n : Nat) (hl : a.eval l = .int kl L) (hc : a.eval c = .int kc C) (hL : L = (n : Int)) (hC : C = (n : Int)) (b2 : i.bytes * n ≤ 281474976710656) (b3 : n ≤ maxLen)
    (hK : ∀ w' cur, Hid (cur = (madeCells z.cells (n * size)).toList) → Hid (cur.length = n * size) → Hid (w'.heap[w.heap.size]? = some (.cells cur.toArray e (0, 0))) → w.grownBy w' none → wpList P ops Q rest (a.put o.dst (.slice (some ⟨w.heap.size, 0, none⟩) n n)) w') :
    wpList P ops Q (o :: rest) a w := by
  refine wpList_make_full w hg l c t hop w.heap.size e i z size h1 h2 h3 h4 kl kc L C n hl hc hL hC b2 b3 (Nat.le_refl _) fun w' hown hgr => hK w' _ (Lib.hid rfl) (Lib.hid (by simp [size_madeCells])) (Lib.hid ?_) hgr
  rcases hown.2 with ⟨h, _⟩ | ⟨g, cap, cur, hv, _, hh, _, _, hcs, htk⟩
  · cases h
  · cases hv
    rw [hh]
    have : cur.toList = (madeCells z.cells (n * size)).toList := by rw [← htk, List.take_of_length_le (by simp; omega)]
    rw [← this]
end

/-- the law of StillTail, its world spelled by drew -/
theorem wp_region_tail {P : Program} {id : Nat} {Q : Exit → Act → World → Prop} {a : Act} {w : World} {l : List Oper} (n : Nat) (hm : P.follows .mixedOrders = true) (hB : Region.lexTailB .any l.toArray n = true)
    (h : wpStill P l.toArray w.drew (fun a' => wpList P l.toArray Q (l.drop n) a' w.drew) (l.take n) a) : (Code.region id l.toArray true).wp P Q a w :=
  wp_region_still_tail n hm hB h

theorem toks_take (l : List Tok) (k : Nat) : toks (l.take k) = (toks l).take (k * 4) := by
  have h := toks_append (l.take k) (l.drop k)
  rw [List.take_append_drop] at h
  rcases Nat.lt_or_ge l.length k with hk | hk
  · rw [List.take_of_length_le (by omega), List.take_of_length_le (by rw [toks_length]; omega)]
  · rw [h, List.take_left' (by rw [toks_length, List.length_take, Nat.min_eq_left hk])]
theorem toks_drop (l : List Tok) (k : Nat) : toks (l.drop k) = (toks l).drop (k * 4) := by
  have h := toks_append (l.take k) (l.drop k)
  rw [List.take_append_drop] at h
  rcases Nat.lt_or_ge l.length k with hk | hk
  · rw [List.drop_of_length_le (by omega), List.drop_of_length_le (by rw [toks_length]; omega)]; rfl
  · rw [h, List.drop_left' (by rw [toks_length, List.length_take, Nat.min_eq_left hk])]

theorem ToksAt.rd {w : World} {a : Option Addr} {l : List Tok} (h : ToksAt w a l) : Rd w a (toks l) := by
  rcases h with h | h
  · left; subst h; rfl
  · exact .inr h
theorem Rd.toks {w : World} {a : Option Addr} {l : List Tok} (h : Rd w a (toks l)) : ToksAt w a l := by
  rcases h with h | h
  · left; have := toks_length l; rw [h] at this; exact List.eq_nil_of_length_eq_zero (by simp at this; omega)
  · exact .inr h

theorem Rd.take {w : World} {a : Option Addr} {xs : List Value} (h : Rd w a xs) (k : Nat) : Rd w a (xs.take k) := by
  rcases h with h | ⟨b, off, ha, hb, hr⟩
  · left; simp [h]
  · refine .inr ⟨b, off, ha, hb, fun j v hv => hr j v ?_⟩
    have hj : j < k := by have := (List.getElem?_eq_some_iff.1 hv).1; simp at this; omega
    rwa [List.getElem?_take_of_lt hj] at hv
theorem Rd.drop {w : World} {a : Option Addr} {xs : List Value} (h : Rd w a xs) (k : Nat) : Rd w (a.map (·.add k)) (xs.drop k) := by
  rcases h with h | ⟨b, off, ha, hb, hr⟩
  · left; simp [h]
  · refine .inr ⟨b, off + k, by rw [ha]; simp [Addr.add_mid], hb, fun j v hv => ?_⟩
    rw [List.getElem?_drop] at hv
    rw [Nat.add_assoc]; exact hr (k + j) v hv
theorem ToksAt.take {w : World} {a : Option Addr} {l : List Tok} (h : ToksAt w a l) (k : Nat) : ToksAt w a (l.take k) := Rd.toks (by rw [toks_take]; exact h.rd.take _)
theorem ToksAt.drop {w : World} {a : Option Addr} {l : List Tok} (h : ToksAt w a l) (k : Nat) : ToksAt w (a.map (·.add (k * 4))) (l.drop k) := Rd.toks (by rw [toks_drop]; exact h.rd.drop _)

theorem rd_new (w : World) (xs : List Value) (e : TypeId) : Rd (w.alloc (.cells xs.toArray e)) (some ⟨w.heap.size, 0, none⟩) xs :=
  .inr ⟨w.heap.size, 0, rfl, by simp, fun j v hv => by rw [cell_of_heap (heap_alloc_new _ _)]; simpa using hv⟩
theorem below_alloc (w : World) (o : Obj) : Below w.heap.size w (w.alloc o) := (Below.refl _ _).alloc (Nat.le_refl _) _
theorem below_drew (w : World) : Below w.heap.size w w.drew := (Below.refl _ _).drew

theorem isToks_take {w : World} {a : Option Addr} {l : List Tok} (h : ToksAt w a l) {c : Nat} (hlc : l.length ≤ c) (hc : c ≤ maxLen) {k : Nat} (hk : k ≤ l.length) : IsToks w (.slice a k c) (l.take k) :=
  ⟨a, c, by rw [List.length_take, Nat.min_eq_left hk], by simp; omega, hc, h.take k⟩
theorem isToks_drop {w : World} {a : Option Addr} {l : List Tok} (h : ToksAt w a l) {c : Nat} (hlc : l.length ≤ c) (hc : c ≤ maxLen) {k : Nat} (hk : k ≤ l.length) : IsToks w (.slice (a.map (·.add (k * 4))) (l.length - k) (c - k)) (l.drop k) :=
  ⟨_, c - k, by rw [List.length_drop], by simp; omega, by omega, h.drop k⟩
theorem isToks_empty (w : World) (a : Option Addr) (c : Nat) (hc : c ≤ maxLen) : IsToks w (.slice a 0 c) [] := ⟨a, c, rfl, by simp, hc, .inl rfl⟩
theorem isToks_row {w : World} {g : Nat} {l : List Tok} {e : TypeId} {fr : Nat × Nat} (h : w.heap[g]? = some (.cells (toks l).toArray e fr)) (hl : l.length ≤ maxLen) : IsToks w (.slice (some ⟨g, 0, none⟩) l.length l.length) l :=
  ⟨_, _, rfl, Nat.le_refl _, hl, .inr ⟨g, 0, rfl, lt_of_heap h, fun j v hv => by rw [cell_of_heap h]; simpa using hv⟩⟩

end Go.Proofs.Ytgjcllbcfhpckaa

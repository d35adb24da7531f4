/- Plain words for tokens and memory: what the other texts of this seat use. No condition. -/
import Derived.WalkKit
import Derived.WalkSpells
import Derived.WalkLawsBesides
import Derived.Deep.QuietTactic
import Derived.BigQuiet
import Derived.Lib.Hide
import Derived.Handy
import Derived.Deep.MidRow
namespace Go.Proofs.Ytgjcllbcfhpckaa
open Go.RowKit

theorem ret_i {k : IntKind} {a b : Int} (h : a = b) : Ending.returned (.int k a) = .returned (.int k b) := by rw [h]
theorem ret_b {a b : Bool} (h : a = b) : Ending.returned (.bool a) = .returned (.bool b) := by rw [h]
theorem ret_ii {k l : IntKind} {a b c d : Int} (h : a = b) (h' : c = d) : Ending.returned (.tuple #[.int k a, .int l c]) = .returned (.tuple #[.int k b, .int l d]) := by rw [h, h']

structure Tok where
  k : Int
  t : Int
  n : Int
  m : Int

def Tok.cs (x : Tok) : List Value := [.int .i64 x.k, .int .i64 x.t, .int .i64 x.n, .int .i64 x.m]
def Tok.val (x : Tok) : Value := .agg #[.int .i64 x.k, .int .i64 x.t, .int .i64 x.n, .int .i64 x.m]
def toks (l : List Tok) : List Value := l.flatMap Tok.cs

theorem toks_length (l : List Tok) : (toks l).length = l.length * 4 := by
  induction l with
  | nil => rfl
  | cons x l ih => simp only [toks, List.flatMap_cons, List.length_append, List.length_cons] at ih ⊢; rw [ih]; simp [Tok.cs]; omega
theorem toks_append (l r : List Tok) : toks (l ++ r) = toks l ++ toks r := by simp [toks]
theorem toks_get (l : List Tok) (i : Nat) (h : i < l.length) (j : Nat) (hj : j < 4) : (toks l)[i * 4 + j]? = l[i].cs[j]? := by
  induction l generalizing i with
  | nil => simp at h
  | cons x l ih =>
    cases i with
    | zero =>
      simp only [toks, List.flatMap_cons, Nat.zero_mul, Nat.zero_add, List.getElem_cons_zero]
      rw [List.getElem?_append_left (by simpa [Tok.cs] using hj)]
    | succ i =>
      have := ih i (by simpa using h)
      simp only [toks, List.flatMap_cons, List.getElem_cons_succ] at this ⊢
      rw [List.getElem?_append_right (by simp [Tok.cs]; omega), ← this]
      congr 1
      simp [Tok.cs]; omega

/-- the tokens of a slice lie at its address -/
def ToksAt (w : World) (a : Option Addr) (l : List Tok) : Prop :=
  l = [] ∨ ∃ b off, a = some ⟨b, off, none⟩ ∧ b < w.heap.size ∧ w.rangeAt b off (toks l)

/-- a slice value of tokens -/
def IsToks (w : World) (v : Value) (l : List Tok) : Prop :=
  ∃ a c, v = .slice a l.length c ∧ l.length ≤ c ∧ c ≤ maxLen ∧ ToksAt w a l

theorem ToksAt.below {w w' : World} {a : Option Addr} {l : List Tok} (h : ToksAt w a l) (hb : Below w.heap.size w w') : ToksAt w' a l := by
  rcases h with h | ⟨b, off, ha, hlt, hr⟩
  · exact .inl h
  · exact .inr ⟨b, off, ha, Nat.lt_of_lt_of_le hlt hb.size, fun j v hv => by rw [hb.cell (p := ⟨b, off + j, none⟩) hlt]; exact hr j v hv⟩
theorem IsToks.below {w w' : World} {v : Value} {l : List Tok} (h : IsToks w v l) (hb : Below w.heap.size w w') : IsToks w' v l := by
  obtain ⟨a, c, h1, h2, h3, h4⟩ := h
  exact ⟨a, c, h1, h2, h3, h4.below hb⟩

/-- the four cells of token i -/
theorem tok_cells {w : World} {b off : Nat} {l : List Tok} (h : w.rangeAt b off (toks l)) (i : Nat) (hi : i < l.length) :
    w.cell? ⟨b, off + i * 4, none⟩ = some (.int .i64 l[i].k) ∧ w.cell? ⟨b, off + i * 4 + 1, none⟩ = some (.int .i64 l[i].t) ∧
    w.cell? ⟨b, off + i * 4 + 2, none⟩ = some (.int .i64 l[i].n) ∧ w.cell? ⟨b, off + i * 4 + 3, none⟩ = some (.int .i64 l[i].m) := by
  have H : ∀ j (hj : j < 4), w.cell? ⟨b, off + (i * 4 + j), none⟩ = some (l[i].cs[j]'(by simpa [Tok.cs] using hj)) := fun j hj =>
    h (i * 4 + j) _ (by rw [toks_get l i hi j hj, List.getElem?_eq_getElem (by simpa [Tok.cs] using hj)])
  exact ⟨H 0 (by omega), H 1 (by omega), H 2 (by omega), H 3 (by omega)⟩

theorem bcell {w w1 : World} {B : Nat} (hb : Below B w w1) : (∀ b o, b < B → w1.cell? ⟨b, o, none⟩ = w.cell? ⟨b, o, none⟩) ∧ (∀ b o, b < B → w1.frozen? ⟨b, o, none⟩ = w.frozen? ⟨b, o, none⟩) :=
  ⟨fun b o h => hb.cell (p := ⟨b, o, none⟩) h, fun b o h => hb.frozen (p := ⟨b, o, none⟩) h⟩

theorem cell_of_heap {w : World} {b : Nat} {C : Array Value} {t : TypeId} {fr : Nat × Nat} (h : w.heap[b]? = some (.cells C t fr)) {o : Nat} : w.cell? ⟨b, o, none⟩ = C[o]? := by
  simp [World.cell?, h]
theorem frozen_of_heap {w : World} {b : Nat} {C : Array Value} {t : TypeId} {fr : Nat × Nat} (h : w.heap[b]? = some (.cells C t fr)) (hf : fr = (0, 0)) {o : Nat} : w.frozen? ⟨b, o, none⟩ = false := by
  subst hf; simp [World.frozen?, h]
theorem lt_of_heap {w : World} {b : Nat} {o : Obj} (h : w.heap[b]? = some o) : b < w.heap.size := by
  rcases Nat.lt_or_ge b w.heap.size with h' | h'
  · exact h'
  · rw [Array.getElem?_eq_none h'] at h; simp at h

theorem below_in {B : Nat} {w wr w1 : World} {o : Obj} (h : Below B w wr) (hB : B ≤ wr.heap.size) (h1 : Below (wr.alloc o).heap.size (wr.alloc o) w1) : Below B w w1 :=
  (h.alloc hB o).trans (h1.mono (by simp; omega))
theorem below_step {w W w1 : World} (h : Below w.heap.size w W) (h1 : Below W.heap.size W w1) : Below w.heap.size w w1 := h.trans (h1.mono h.size)
theorem below_drewN {B : Nat} {w w1 : World} (h : Below B w w1) (n : Nat) : Below B w (w1.drewN n) := ⟨h.os, h.tape, h.output, h.size, h.block⟩
theorem heap_alloc_at (w : World) (o : Obj) {n : Nat} (h : n = w.heap.size) : (w.alloc o).heap[n]? = some o := by subst h; exact heap_alloc_new w o
theorem heap_in {wr w1 : World} {b : Nat} {x o : Obj} (h : wr.heap[b]? = some x) (h1 : Below (wr.alloc o).heap.size (wr.alloc o) w1) : w1.heap[b]? = some x := by
  have hb := lt_of_heap h
  rw [h1.block b (by simp; omega), Below.heap_alloc _ _ _ hb, h]
theorem heap_setCell_at {w : World} {b o : Nat} {C : Array Value} {t : TypeId} {fr : Nat × Nat} (h : w.heap[b]? = some (.cells C t fr)) (u : Value) :
    (w.setCell ⟨b, o, none⟩ u).heap[b]? = some (.cells (C.setIfInBounds o u) t fr) := by
  simp [World.setCell, Array.getElem?_modify, h]

end Go.Proofs.Ytgjcllbcfhpckaa

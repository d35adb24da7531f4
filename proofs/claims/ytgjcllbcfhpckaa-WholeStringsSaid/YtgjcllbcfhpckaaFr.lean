/- Frames: a call changes no block but those that are named. Bytes as cells. No condition. -/
import Derived.Test.YtgjcllbcfhpckaaEm1
namespace Go.Proofs.Ytgjcllbcfhpckaa
open Go.RowKit

/-- of the blocks of w only those in S may have changed -/
structure Fr (w w' : World) (S : Nat → Prop) : Prop where
  os : w'.os = w.os
  tape : w'.tape = w.tape
  output : w'.output = w.output
  size : w.heap.size ≤ w'.heap.size
  block : ∀ k, k < w.heap.size → ¬ S k → w'.heap[k]? = w.heap[k]?

theorem Fr.refl (w : World) (S : Nat → Prop) : Fr w w S := ⟨rfl, rfl, rfl, Nat.le_refl _, fun _ _ _ => rfl⟩
theorem Fr.of_below {w w' : World} (h : Below w.heap.size w w') (S : Nat → Prop) : Fr w w' S := ⟨h.os, h.tape, h.output, h.size, fun k hk _ => h.block k hk⟩
theorem Fr.of_grown {w w' : World} {row : Option Nat} (h : w.grownBy w' row) : Fr w w' (fun k => some k = row) := ⟨h.os, h.tape, h.output, h.size, fun k hk hn => h.block k hk hn⟩
theorem Fr.trans {w w1 w2 : World} {S T : Nat → Prop} (h : Fr w w1 S) (k : Fr w1 w2 T) (hT : ∀ i, i < w.heap.size → T i → S i) : Fr w w2 S :=
  ⟨k.os.trans h.os, k.tape.trans h.tape, k.output.trans h.output, Nat.le_trans h.size k.size, fun i hi hn => (k.block i (Nat.lt_of_lt_of_le hi h.size) (fun t => hn (hT i hi t))).trans (h.block i hi hn)⟩
theorem Fr.mono {w w1 : World} {S T : Nat → Prop} (h : Fr w w1 S) (hT : ∀ i, i < w.heap.size → S i → T i) : Fr w w1 T :=
  ⟨h.os, h.tape, h.output, h.size, fun i hi hn => h.block i hi (fun s => hn (hT i hi s))⟩
theorem Fr.setCell {w w1 : World} {S : Nat → Prop} (h : Fr w w1 S) {p : Addr} (hp : p.block < w.heap.size → S p.block) (u : Value) : Fr w (w1.setCell p u) S :=
  ⟨h.os, h.tape, h.output, by have := h.size; simpa [World.setCell] using this, fun i hi hn => by
    rw [Below.heap_setCell w1 p u i (by rintro rfl; exact hn (hp hi))]; exact h.block i hi hn⟩
theorem Fr.set {w w1 : World} {S : Nat → Prop} (h : Fr w w1 S) {d : Nat} (hd : S d) (o : Nat) (u : Value) : Fr w (w1.setCell ⟨d, o, none⟩ u) S := h.setCell (p := ⟨d, o, none⟩) (fun _ => hd) u
theorem Fr.alloc {w w1 : World} {S : Nat → Prop} (h : Fr w w1 S) (o : Obj) : Fr w (w1.alloc o) S :=
  ⟨h.os, h.tape, h.output, by have := h.size; simp; omega, fun i hi hn => by
    rw [Below.heap_alloc _ _ _ (Nat.lt_of_lt_of_le hi h.size)]; exact h.block i hi hn⟩
theorem Fr.drew {w w1 : World} {S : Nat → Prop} (h : Fr w w1 S) : Fr w w1.drew S := ⟨h.os, h.tape, h.output, h.size, h.block⟩
theorem Fr.drewN {w w1 : World} {S : Nat → Prop} (h : Fr w w1 S) (n : Nat) : Fr w (w1.drewN n) S := ⟨h.os, h.tape, h.output, h.size, h.block⟩
theorem Fr.below {w w' : World} {S : Nat → Prop} (h : Fr w w' S) {B : Nat} {w0 : World} (hb : Below B w0 w) (hB : B ≤ w.heap.size) (hS : ∀ k, S k → B ≤ k) : Below B w0 w' :=
  hb.trans ⟨h.os, h.tape, h.output, h.size, fun k hk => h.block k (by omega) (fun s => absurd (hS k s) (by omega))⟩
theorem Own.fr {w w' : World} {base : Nat} {e : TypeId} {sz : Nat} {a : Option Addr} {n c : Nat} {xs : List Value} (h : Own w base e sz a n c xs) {S : Nat → Prop} (hf : Fr w w' S) (hS : ∀ b, blk a = some b → ¬ S b) : Own w' base e sz a n c xs :=
  h.same fun b hb => hf.block b (h.lt hb) (hS b hb)

/-- bytes as cells -/
def u8s (l : List UInt8) : List Value := l.map fun b => Value.int .u8 b.toNat
theorem u8s_length (l : List UInt8) : (u8s l).length = l.length := by simp [u8s]
theorem u8s_append (l r : List UInt8) : u8s (l ++ r) = u8s l ++ u8s r := by simp [u8s]
theorem u8s_take (l : List UInt8) (k : Nat) : u8s (l.take k) = (u8s l).take k := by simp [u8s]
theorem u8s_one (l : List UInt8) : ∀ u ∈ u8s l, u.oneCell' = true := by
  intro u hu
  obtain ⟨b, _, rfl⟩ := List.mem_map.1 hu
  rfl
end Go.Proofs.Ytgjcllbcfhpckaa

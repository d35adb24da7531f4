/- Deeds as cells of memory, and a conversion of bytes. -/
import Derived.Test.YtgjcllbcfhpckaaFr
import Derived.Test.YtgjcllbcfhpckaaFl
namespace Go.Proofs.Ytgjcllbcfhpckaa
open Go.RowKit

theorem run_convert_u8s (w : World) (src dst e : TypeId) (hs : Try.prog.underlying src = some (.slice e)) (he : Try.prog.underlying e = some (.int .u8)) (hd : Try.prog.underlying dst = some .string)
    {a : Option Addr} {c : Nat} {bs : List UInt8} (h : Rd w a (u8s bs)) : (convert src dst (.slice a bs.length c)).run Try.prog w = .ok (.string ⟨bs.toArray⟩) w := by
  have key : ∀ ad, a = some ad → (loadCells ad bs.length).run Try.prog w = .ok ((bs.map fun b => (b.toNat : Int)).map (Value.int .u8)).toArray w := by
    intro ad ha
    have e1 : (bs.map fun b => (b.toNat : Int)).map (Value.int .u8) = u8s bs := by simp [u8s]
    rw [e1, ← u8s_length bs]
    refine run_loadCells_list w ad (u8s bs) (fun j v hv => ?_)
    rcases h with h | ⟨b, off, ha', _, hr⟩
    · rw [h] at hv; simp at hv
    · rw [ha] at ha'; cases ha'; rw [Addr.add_mid]; exact hr j v hv
  cases a with
  | none =>
    have hb : bs = [] := by
      rcases h with h | ⟨b, off, ha', _⟩
      · have := u8s_length bs; rw [h] at this; exact List.eq_nil_of_length_eq_zero (by simpa using this.symm)
      · cases ha'
    subst hb
    rw [run_convert_bytes_nil w src e hs he _ _ dst hd]
    rfl
  | some ad =>
    rw [run_convert_bytes_string w src dst e _ bs.length c hs he hd, run_bytesToString w _ bs.length c _ (key ad rfl), foldl_push_bytes]
    have e2 : (bs.map fun b => (b.toNat : Int)).map (fun n => UInt8.ofNat n.toNat) = bs := by
      rw [List.map_map]; exact (List.map_congr_left (fun b _ => by simp)).trans (List.map_id _)
    rw [e2]
    simp [ByteArray.empty, ByteArray.emptyWithCapacity]
    rfl

structure Dd where
  k : UInt8
  a : UInt8
  b : UInt8
  c : UInt8
def Dd.cs (x : Dd) : List Value := [.int .u8 x.k.toNat, .int .u8 x.a.toNat, .int .u8 x.b.toNat, .int .u8 x.c.toNat]
def dds (l : List Dd) : List Value := l.flatMap Dd.cs
theorem dds_length (l : List Dd) : (dds l).length = l.length * 4 := by
  induction l with
  | nil => rfl
  | cons x l ih => simp only [dds, List.flatMap_cons, List.length_append, List.length_cons] at ih ⊢; rw [ih]; simp [Dd.cs]; omega
theorem dds_get (l : List Dd) (i : Nat) (h : i < l.length) (j : Nat) (hj : j < 4) : (dds l)[i * 4 + j]? = l[i].cs[j]? := by
  induction l generalizing i with
  | nil => simp at h
  | cons x l ih =>
    cases i with
    | zero =>
      simp only [dds, List.flatMap_cons, Nat.zero_mul, Nat.zero_add, List.getElem_cons_zero]
      rw [List.getElem?_append_left (by simpa [Dd.cs] using hj)]
    | succ i =>
      have := ih i (by simpa using h)
      simp only [dds, List.flatMap_cons, List.getElem_cons_succ] at this ⊢
      rw [List.getElem?_append_right (by simp [Dd.cs]; omega), ← this]
      congr 1
      simp [Dd.cs]; omega
theorem dd_cells {w : World} {a : Option Addr} {l : List Dd} (h : Rd w a (dds l)) (i : Nat) (hi : i < l.length) :
    ∃ b off, a = some ⟨b, off, none⟩ ∧ b < w.heap.size ∧
    w.cell? ⟨b, off + i * 4, none⟩ = some (.int .u8 l[i].k.toNat) ∧ w.cell? ⟨b, off + i * 4 + 1, none⟩ = some (.int .u8 l[i].a.toNat) ∧
    w.cell? ⟨b, off + i * 4 + 2, none⟩ = some (.int .u8 l[i].b.toNat) ∧ w.cell? ⟨b, off + i * 4 + 3, none⟩ = some (.int .u8 l[i].c.toNat) := by
  rcases h with h | ⟨b, off, ha, hb, hr⟩
  · have := dds_length l; rw [h] at this; simp at this; omega
  have H : ∀ j (hj : j < 4), w.cell? ⟨b, off + (i * 4 + j), none⟩ = some (l[i].cs[j]'(by simpa [Dd.cs] using hj)) := fun j hj =>
    hr (i * 4 + j) _ (by rw [dds_get l i hi j hj, List.getElem?_eq_getElem (by simpa [Dd.cs] using hj)])
  exact ⟨b, off, ha, hb, H 0 (by omega), H 1 (by omega), H 2 (by omega), H 3 (by omega)⟩
end Go.Proofs.Ytgjcllbcfhpckaa

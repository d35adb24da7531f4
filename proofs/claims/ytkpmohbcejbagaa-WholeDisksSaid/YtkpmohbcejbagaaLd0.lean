/- What the rounds of WholeDisks do to memory. No condition. -/
import Derived.Test.YtkpmohbcejbagaaDa
namespace Go.Proofs.Ytkpmohbcejbagaa
open Go.RowKit

theorem run_convert_u8s (w : World) (src dst e : TypeId) (hs : Try.prog.underlying src = some (.slice e)) (he : Try.prog.underlying e = some (.int .u8)) (hd : Try.prog.underlying dst = some .string)
    {a : Option Addr} {c : Nat} {bs : List UInt8} (h : Rd w a (u8s bs)) : (convert src dst (.slice a bs.length c)).run Try.prog w = .ok (.string ⟨bs.toArray⟩) w := by
  have key : ∀ ad, a = some ad → (loadCells ad bs.length).run Try.prog w = .ok ((bs.map fun b => (b.toNat : Int)).map (Value.int .u8)).toArray w := by
    intro ad ha
    have e1 : (bs.map fun b => (b.toNat : Int)).map (Value.int .u8) = u8s bs := by simp [u8s]
    rw [e1, ← u8s_length bs]
    refine run_loadCells_list w ad (u8s bs) (fun j v hv => ?_)
    rcases h with h | ⟨b, off, ha', _, hr⟩
    · rw [h] at hv; simp at hv
    · rw [ha] at ha'; cases ha'; rw [Addr.add_mid]; exact hr j v hv
  cases a with
  | none =>
    have hb : bs = [] := by
      rcases h with h | ⟨b, off, ha', _⟩
      · have := u8s_length bs; rw [h] at this; exact List.eq_nil_of_length_eq_zero (by simpa using this.symm)
      · cases ha'
    subst hb
    rw [run_convert_bytes_nil w src e hs he _ _ dst hd]
    rfl
  | some ad =>
    rw [run_convert_bytes_string w src dst e _ bs.length c hs he hd, run_bytesToString w _ bs.length c _ (key ad rfl), foldl_push_bytes]
    have e2 : (bs.map fun b => (b.toNat : Int)).map (fun n => UInt8.ofNat n.toNat) = bs := by
      rw [List.map_map]; exact (List.map_congr_left (fun b _ => by simp)).trans (List.map_id _)
    rw [e2]
    simp [ByteArray.empty, ByteArray.emptyWithCapacity]
    rfl

structure Inv (w0 w : World) (B d : Nat) (a : Option Addr) (c : Nat) (ab : Option Addr) (cb : Nat) (bs : List UInt8) (s : Nat) : Prop where
  disk : DiskAt w B d a c bs s 64
  own : Own w B 5 1 ab bs.length cb (u8s bs)
  ne : blk ab ≠ some d
  ap : ∀ g, blk ab = some g → blk a ≠ some g
  le : s ≤ bs.length
  most : bs.length ≤ 64
  below : Below B w0 w

/-- behind a call of the disk that leaves it at bs, s, as the plain bytes are -/
theorem inv_ret {w0 w w' : World} {B d : Nat} {a : Option Addr} {c : Nat} {ab : Option Addr} {cb : Nat} {bs bs0 : List UInt8} {s s0 : Nat} {er : Int} {e : Ending}
    (hd : DiskAt w B d a c bs0 s0 64) (hr : RetDisk w B d a er bs s 64 e w') (ho : Own w B 5 1 ab bs.length cb (u8s bs)) (hne : blk ab ≠ some d) (hap : ∀ g, blk ab = some g → blk a ≠ some g)
    (hle : s ≤ bs.length) (hm : bs.length ≤ 64) (hb : Below B w0 w) (hB : B ≤ w.heap.size) : ∃ a' c', Inv w0 w' B d a' c' ab cb bs s := by
  obtain ⟨_, hf, a', c', hd', hblk⟩ := hr
  have hS : ∀ g, blk ab = some g → ¬ (g = d ∨ some g = blk a) := by
    rintro g hg (rfl | h)
    · exact hne hg
    · exact hap g hg h.symm
  refine ⟨a', c', hd', ho.fr hf hS, hne, ?_, hle, hm, hf.below hb hB ?_⟩
  · intro g hg h
    rcases hblk with h' | ⟨g', h', hge⟩
    · exact hap g hg (h'.symm.trans h)
    · have := ho.lt hg
      rw [h] at h'; cases h'; omega
  · rintro k (rfl | hk)
    · exact hd.2.1
    · exact hd.2.2.1.base_le hk.symm

theorem DiskAt.fr {w w' : World} {base d : Nat} {a : Option Addr} {c : Nat} {bs : List UInt8} {sure most : Nat} (h : DiskAt w base d a c bs sure most) {S : Nat → Prop} (hf : Fr w w' S) (h1 : ¬ S d) (h2 : ∀ b, blk a = some b → ¬ S b) :
    DiskAt w' base d a c bs sure most :=
  ⟨by rw [hf.block d (lt_of_heap h.1) h1]; exact h.1, h.2.1, h.2.2.1.fr hf h2, h.2.2.2⟩

theorem Inv.lt {w0 w : World} {B d : Nat} {a : Option Addr} {c : Nat} {ab : Option Addr} {cb : Nat} {bs : List UInt8} {s : Nat} (h : Inv w0 w B d a c ab cb bs s) : d < w.heap.size := lt_of_heap h.disk.1
theorem Inv.base {w0 w : World} {B d : Nat} {a : Option Addr} {c : Nat} {ab : Option Addr} {cb : Nat} {bs : List UInt8} {s : Nat} (h : Inv w0 w B d a c ab cb bs s) : B ≤ w.heap.size := Nat.le_of_lt (Nat.lt_of_le_of_lt h.disk.2.1 h.lt)
theorem Inv.of_below {w0 w w' : World} {B d : Nat} {a : Option Addr} {c : Nat} {ab : Option Addr} {cb : Nat} {bs : List UInt8} {s : Nat} (h : Inv w0 w B d a c ab cb bs s) (hb : Below w.heap.size w w') : Inv w0 w' B d a c ab cb bs s :=
  ⟨h.disk.fr (Fr.of_below hb (fun _ => False)) (fun h => h) (fun _ _ h => h), h.own.below hb, h.ne, h.ap, h.le, h.most, h.below.trans (hb.mono h.base)⟩

theorem inv_conv {w0 w : World} {B d : Nat} {a : Option Addr} {c : Nat} {ab : Option Addr} {cb : Nat} {bs : List UInt8} {s : Nat} (h : Inv w0 w B d a c ab cb bs s) :
    (convert 27 9 (.slice ab bs.length cb)).run Try.prog w = .ok (.string ⟨bs.toArray⟩) w :=
  run_convert_u8s w _ _ 5 Try.underlying27 Try.underlying5 Try.underlying9 h.own.rd
theorem row_conv {w : World} {g : Nat} {bs : List UInt8} (hh : w.heap[g]? = some (.cells (u8s bs).toArray 5 (0, 0))) :
    (convert 27 9 (.slice (some ⟨g, 0, none⟩) bs.length bs.length)).run Try.prog w = .ok (.string ⟨bs.toArray⟩) w :=
  run_convert_u8s w _ _ 5 Try.underlying27 Try.underlying5 Try.underlying9
    (.inr ⟨g, 0, rfl, lt_of_heap hh, fun j v hv => by rw [cell_of_heap hh]; simpa using hv⟩)

theorem own_take {w : World} {B : Nat} {ab : Option Addr} {cb : Nat} {bs : List UInt8} (h : Own w B 5 1 ab bs.length cb (u8s bs)) {r : Nat} (hr : r ≤ bs.length) : Own w B 5 1 ab (bs.take r).length cb (u8s (bs.take r)) := by
  have := h.take hr
  rw [List.length_take, Nat.min_eq_left hr, u8s_take]
  rwa [Nat.mul_one] at this
theorem len_take {bs : List UInt8} {r : Nat} (hr : r ≤ bs.length) : (bs.take r).length = r := by rw [List.length_take, Nat.min_eq_left hr]

theorem rep_step (t : Nat) (b : UInt8) : u8s (List.replicate t b) ++ [Value.int .u8 b.toNat] = u8s (List.replicate (t + 1) b) := by
  rw [List.replicate_succ', u8s_append]; rfl
theorem rep_len (t : Nat) (b : UInt8) : (List.replicate t b).length = t := List.length_replicate

/-- behind the plain append -/
theorem inv_plain {w0 w w1 : World} {B d : Nat} {a : Option Addr} {c : Nat} {ab : Option Addr} {cb : Nat} {bs : List UInt8} {s : Nat} (h : Inv w0 w B d a c ab cb bs s)
    {a1 : Option Addr} (hgr : w.grownBy w1 (blk ab)) (hb : blk a1 = blk ab ∨ blk a1 = some w.heap.size) :
    DiskAt w1 B d a c bs s 64 ∧ blk a1 ≠ some d ∧ (∀ g, blk a1 = some g → blk a ≠ some g) ∧ Below B w0 w1 ∧ B ≤ w1.heap.size := by
  have hlt := h.lt
  refine ⟨h.disk.fr (Fr.of_grown hgr) (fun e => h.ne e.symm) (fun b hb' e => ?_), ?_, ?_, (Fr.of_grown hgr).below h.below h.base (fun k hk => h.own.base_le hk.symm), Nat.le_trans h.base hgr.size⟩
  · exact h.ap b e.symm hb'
  · rcases hb with hb | hb
    · rw [hb]; exact h.ne
    · rw [hb]; intro e; cases e; omega
  · intro g hg e
    rcases hb with hb | hb
    · exact h.ap g (hb.symm.trans hg) e
    · rw [hb] at hg; cases hg
      exact absurd (h.disk.2.2.1.lt e) (by omega)

structure Dd where
  k : UInt8
  a : UInt8
  b : UInt8
  c : UInt8
def Dd.cs (x : Dd) : List Value := [.int .u8 x.k.toNat, .int .u8 x.a.toNat, .int .u8 x.b.toNat, .int .u8 x.c.toNat]
def dds (l : List Dd) : List Value := l.flatMap Dd.cs
theorem dds_length (l : List Dd) : (dds l).length = l.length * 4 := by
  induction l with
  | nil => rfl
  | cons x l ih => simp only [dds, List.flatMap_cons, List.length_append, List.length_cons] at ih ⊢; rw [ih]; simp [Dd.cs]; omega
theorem dds_get (l : List Dd) (i : Nat) (h : i < l.length) (j : Nat) (hj : j < 4) : (dds l)[i * 4 + j]? = l[i].cs[j]? := by
  induction l generalizing i with
  | nil => simp at h
  | cons x l ih =>
    cases i with
    | zero =>
      simp only [dds, List.flatMap_cons, Nat.zero_mul, Nat.zero_add, List.getElem_cons_zero]
      rw [List.getElem?_append_left (by simpa [Dd.cs] using hj)]
    | succ i =>
      have := ih i (by simpa using h)
      simp only [dds, List.flatMap_cons, List.getElem_cons_succ] at this ⊢
      rw [List.getElem?_append_right (by simp [Dd.cs]; omega), ← this]
      congr 1
      simp [Dd.cs]; omega
theorem dd_cells {w : World} {a : Option Addr} {l : List Dd} (h : Rd w a (dds l)) (i : Nat) (hi : i < l.length) :
    ∃ b off, a = some ⟨b, off, none⟩ ∧ b < w.heap.size ∧
    w.cell? ⟨b, off + i * 4, none⟩ = some (.int .u8 l[i].k.toNat) ∧ w.cell? ⟨b, off + i * 4 + 1, none⟩ = some (.int .u8 l[i].a.toNat) ∧
    w.cell? ⟨b, off + i * 4 + 2, none⟩ = some (.int .u8 l[i].b.toNat) ∧ w.cell? ⟨b, off + i * 4 + 3, none⟩ = some (.int .u8 l[i].c.toNat) := by
  rcases h with h | ⟨b, off, ha, hb, hr⟩
  · have := dds_length l; rw [h] at this; simp at this; omega
  have H : ∀ j (hj : j < 4), w.cell? ⟨b, off + (i * 4 + j), none⟩ = some (l[i].cs[j]'(by simpa [Dd.cs] using hj)) := fun j hj =>
    hr (i * 4 + j) _ (by rw [dds_get l i hi j hj, List.getElem?_eq_getElem (by simpa [Dd.cs] using hj)])
  exact ⟨b, off, ha, hb, H 0 (by omega), H 1 (by omega), H 2 (by omega), H 3 (by omega)⟩
end Go.Proofs.Ytkpmohbcejbagaa

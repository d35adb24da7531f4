/- Paragraphs of ASCII letters: plain laws of flat and step over them. -/
import Derived.Test.YtgjcllbcfhpckaaIv
import Derived.Test.YtgjcllbcfhpckaaTx
namespace Go.Proofs.Ytgjcllbcfhpckaa
open Go.RowKit

def Ascii (s : List UInt8) : Prop := ∀ b ∈ s, b.toNat < 128
theorem Ascii.append {s r : List UInt8} (h : Ascii s) (k : Ascii r) : Ascii (s ++ r) := fun b hb => (List.mem_append.1 hb).elim (h b) (k b)
theorem Ascii.take {s : List UInt8} (h : Ascii s) (n : Nat) : Ascii (s.take n) := fun b hb => h b (List.mem_of_mem_take hb)
theorem Ascii.drop {s : List UInt8} (h : Ascii s) (n : Nat) : Ascii (s.drop n) := fun b hb => h b (List.mem_of_mem_drop hb)

def para (s : List UInt8) : List Tok := elem 1 0 (lets s 0)
theorem para_length (s : List UInt8) : (para s).length = s.length + 2 := by rw [para, elem_length, lets_length]; omega
theorem paraToks_one (s : ByteArray) : paraToks [s] = para s.data.toList := by simp [paraToks, para]

theorem lets_append (s r : List UInt8) (m : Int) : lets (s ++ r) m = lets s m ++ lets r m := by simp [lets]
theorem lets_take (s : List UInt8) (m : Int) (n : Nat) : lets (s.take n) m = (lets s m).take n := by simp [lets]
theorem lets_drop (s : List UInt8) (m : Int) (n : Nat) : lets (s.drop n) m = (lets s m).drop n := by simp [lets]

theorem right_let {b : UInt8} (h : b.toNat < 128) : right ⟨0, 0, b.toNat, 0⟩ = true := by
  unfold right; simp; omega
theorem lets_right {s : List UInt8} (h : Ascii s) : (lets s 0).all right = true := by
  rw [List.all_eq_true]; intro t ht
  obtain ⟨b, hb, rfl⟩ := List.mem_map.1 ht
  exact right_let (h b hb)

theorem chk_lets {s : List UInt8} (h : Ascii s) (r : List Tok) (i d : Nat) : chk (lets s 0 ++ r) i d = chk r (i + s.length) d := by
  induction s generalizing i with
  | nil => rfl
  | cons b s ih =>
    have hb : right ⟨0, 0, b.toNat, 0⟩ = true := right_let (h b (by simp))
    have := ih (fun c hc => h c (by simp [hc])) (i + 1)
    rw [List.length_cons, show i + (s.length + 1) = i + 1 + s.length from by omega, ← this]
    show chk (⟨0, 0, b.toNat, 0⟩ :: (lets s 0 ++ r)) i d = _
    rw [chk]; simp [hb]

theorem check_para {s : List UInt8} (h : Ascii s) (hl : s.length ≤ 2046) : (checkOf (para s)).2 = 0 := by
  have h1 : right ⟨1, 1, 0, 0⟩ = true := by decide
  have h2 : right ⟨2, 0, 0, 0⟩ = true := by decide
  unfold checkOf
  rw [if_neg (by rw [para_length]; omega)]
  show (chk (⟨1, 1, 0, 0⟩ :: (lets s 0 ++ [⟨2, 0, 0, 0⟩])) 0 0).2 = 0
  rw [chk, if_neg (by simp [h1]), if_neg (by simp), if_pos rfl, chk_lets h, chk, if_neg (by simp [h2]), if_neg (by simp), if_neg (by simp), if_pos rfl]
  simp [chk]

theorem stepCheck_lets {f t : Nat} {s : List UInt8} (h : Ascii s) (hft : f ≤ t) (ht : t ≤ 2048) (hs : s.length ≤ 2048) : stepCheckOf f t (lets s 0) = 0 := by
  unfold stepCheckOf stepOk
  rw [lets_length, if_neg (by omega), lets_right h, if_pos (by simp; omega)]

theorem para_take (s : List UInt8) (f : Nat) (hf : f ≤ s.length) : (para s).take (1 + f) = ⟨1, 1, 0, 0⟩ :: lets (s.take f) 0 := by
  show (⟨1, 1, 0, 0⟩ :: (lets s 0 ++ [⟨2, 0, 0, 0⟩])).take (1 + f) = _
  rw [Nat.add_comm, List.take_succ_cons, List.take_append_of_le_length (by rw [lets_length]; exact hf), lets_take]
theorem para_drop (s : List UInt8) (f : Nat) (hf : f ≤ s.length) : (para s).drop (1 + f) = lets (s.drop f) 0 ++ [⟨2, 0, 0, 0⟩] := by
  show (⟨1, 1, 0, 0⟩ :: (lets s 0 ++ [⟨2, 0, 0, 0⟩])).drop (1 + f) = _
  rw [Nat.add_comm, List.drop_succ_cons, List.drop_append_of_le_length (by rw [lets_length]; exact hf), lets_drop]
theorem para_mid (s : List UInt8) (f t : Nat) (hft : f ≤ t) (ht : t ≤ s.length) : ((para s).drop (1 + f)).take (t - f) = lets ((s.drop f).take (t - f)) 0 := by
  rw [para_drop s f (by omega), List.take_append_of_le_length (by rw [lets_length, List.length_drop]; omega), lets_take]

theorem apply_para {s r : List UInt8} {f t : Nat} (hs : Ascii s) (hr : Ascii r) (hft : f ≤ t) (ht : t ≤ s.length) (hl : s.length ≤ 1000) (hrl : r.length ≤ 1000) :
    applyOf (para s) ((1 + f : Nat) : Int) ((1 + t : Nat) : Int) (lets r 0) = (para (s.take f ++ r ++ s.drop t), 0) := by
  have hout : (para s).take (1 + f) ++ lets r 0 ++ (para s).drop (1 + t) = para (s.take f ++ r ++ s.drop t) := by
    rw [para_take s f (by omega), para_drop s t ht, para, elem, lets_append, lets_append]; simp
  have h1 := check_para hs (by omega)
  have h2 := stepCheck_lets (f := 1 + f) (t := 1 + t) hr (by omega) (by omega) (by omega)
  have h3 := check_para (((hs.take f).append hr).append (hs.drop t)) (by simp; omega)
  unfold applyOf
  rw [if_neg (by simp [h1]), if_neg (by simp only [h2]; simp), if_neg (by rw [para_length]; omega)]
  simp only [Int.toNat_natCast]
  rw [hout, if_pos h3]

theorem text_lets (s : List UInt8) (h : Ascii s) : textOf (lets s 0) = s := by
  induction s with
  | nil => rfl
  | cons b s ih =>
    show textOf (⟨0, 0, b.toNat, 0⟩ :: lets s 0) = _
    rw [textOf_cons, ih (fun c hc => h c (by simp [hc]))]
    simp [isLetter, right_let (h b (by simp))]
theorem text_para (s : List UInt8) (h : Ascii s) : textOf (para s) = s := by
  show textOf (⟨1, 1, 0, 0⟩ :: (lets s 0 ++ [⟨2, 0, 0, 0⟩])) = s
  rw [textOf_cons, textOf_append, text_lets s h]; simp [isLetter, textOf]
theorem para_low (s : List UInt8) (h : Ascii s) : ∀ t ∈ para s, isLetter t = true → t.n ≤ 127 := by
  intro t ht _
  have : t = ⟨1, 1, 0, 0⟩ ∨ t ∈ lets s 0 ∨ t = ⟨2, 0, 0, 0⟩ := by
    have : t ∈ ⟨1, 1, 0, 0⟩ :: (lets s 0 ++ [⟨2, 0, 0, 0⟩]) := ht
    simpa using this
  rcases this with rfl | h' | rfl
  · simp
  · obtain ⟨b, hb, rfl⟩ := List.mem_map.1 h'
    have := h b hb; simp; omega
  · simp

end Go.Proofs.Ytgjcllbcfhpckaa

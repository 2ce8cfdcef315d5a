/- The law of bytes: plain texts. -/
import Derived.Test.YteclkkbebinkpaaI
namespace Go.Proofs.Yteclkkbebinkpaa
open Go.RowKit

/-- a text behind an edit -/
def editT (s ins : ByteArray) (a d : Nat) : ByteArray := s.extract 0 a ++ ins ++ s.extract (a + d) s.size

theorem editT_size (s ins : ByteArray) (a d : Nat) (h : a + d ≤ s.size) : (editT s ins a d).size = s.size - d + ins.size := by
  unfold editT
  simp only [ByteArray.size_append, ByteArray.size_extract]
  omega

theorem editT_data (s ins : ByteArray) (a d : Nat) (h : a + d ≤ s.size) : (editT s ins a d).data.toList = s.data.toList.take a ++ ins.data.toList ++ s.data.toList.drop (a + d) := by
  have hL : s.data.toList.length = s.size := by rw [Array.length_toList]; rfl
  unfold editT
  simp only [ByteArray.data_append, ByteArray.data_extract, Array.toList_append, Array.toList_extract, List.extract, List.drop_zero, Nat.sub_zero]
  congr 1
  rw [List.take_of_length_le]
  rw [List.length_drop]
  omega

theorem ext_of_list {p q : ByteArray} (h : p.data.toList = q.data.toList) : p = q := by
  cases p; cases q
  congr 1
  exact Array.toList_inj.1 h

theorem extract_data (s : ByteArray) (x y : Nat) : (s.extract x y).data.toList = (s.data.toList.take y).drop x := by
  simp [ByteArray.data_extract, Array.toList_extract, List.extract, List.drop_take]

theorem bytes_law (s ins : ByteArray) (a d : Nat) (f t : Int) (hs : s.size ≤ 300) (hi : ins.size ≤ 300) (hd : a + d ≤ s.size) (hf : 0 ≤ f) (h1 : f ≤ t) (h2 : t ≤ s.size) :
    ((((editT s ins a d).size : Nat) : Int) = clamp (s.size : Int) - clamp (d : Int) + clamp (ins.size : Int)) ∧
    ∃ x y : Nat, startF f a d ins.size = x ∧ max (startF f a d ins.size) (endF t a d ins.size) = y ∧ x ≤ y ∧ y ≤ (editT s ins a d).size ∧
      (f < t → meetsF f t a d ins.size = false → (editT s ins a d).extract x y = s.extract f.toNat t.toNat) := by
  have hsz := editT_size s ins a d hd
  refine ⟨?_, ?_⟩
  · rw [hsz, clamp_in (by omega) (by omega), clamp_in (by omega) (by omega), clamp_in (by omega) (by omega)]
    omega
  rw [meets_in (by omega) (by omega) (by omega) (by omega) (by omega), start_in (by omega) (by omega) (by omega) (by omega), end_in (by omega) (by omega) (by omega) (by omega)]
  obtain ⟨f, rfl⟩ := Int.eq_ofNat_of_zero_le hf
  obtain ⟨t, rfl⟩ := Int.eq_ofNat_of_zero_le (show 0 ≤ t by omega)
  simp only [Int.toNat_natCast]
  generalize hX : (if (f : Int) < a then (f : Int) else if (a : Int) + d ≤ f then (f : Int) - d + ins.size else (a : Int) + ins.size) = X
  generalize hY : (if (t : Int) ≤ a then (t : Int) else if (a : Int) + d ≤ t then (t : Int) - d + ins.size else (a : Int)) = Y
  have bX : 0 ≤ X ∧ X ≤ s.size - d + ins.size := by rw [← hX]; repeat' (first | omega | split)
  have bY : 0 ≤ Y ∧ Y ≤ s.size - d + ins.size := by rw [← hY]; repeat' (first | omega | split)
  refine ⟨X.toNat, (max X Y).toNat, by omega, by omega, by omega, by rw [hsz]; omega, ?_⟩
  intro hlt hm
  rw [decide_eq_false_iff_not] at hm
  apply ext_of_list
  rw [extract_data, extract_data, editT_data s ins a d hd]
  have hL : s.data.toList.length = s.size := by rw [Array.length_toList]; rfl
  have hI : ins.data.toList.length = ins.size := by rw [Array.length_toList]; rfl
  generalize s.data.toList = l at *
  generalize ins.data.toList = k at *
  apply List.ext_getElem?
  intro j
  simp only [List.getElem?_drop, List.getElem?_take, List.getElem?_append, List.length_append, List.length_take]
  rcases (show (t ≤ a) ∨ (a + d ≤ f) ∨ (f < a ∧ a < t ∧ d = 0 ∧ ins.size = 0) by omega) with h | h | ⟨h3, h4, h5, h6⟩
  · have e1 : X.toNat = f := by rw [← hX, if_pos (by omega)]; omega
    have e2 : (max X Y).toNat = t := by rw [← hX, ← hY, if_pos (by omega), if_pos (by omega)]; omega
    rw [e1, e2]
    by_cases c : f + j < t
    · rw [if_pos c, if_pos c, if_pos (by omega), if_pos (by omega), if_pos (by omega)]
    · rw [if_neg c, if_neg c]
  · have e1 : X.toNat = f - d + ins.size := by rw [← hX, if_neg (by omega), if_pos (by omega)]; omega
    have e2 : (max X Y).toNat = t - d + ins.size := by rw [← hX, ← hY, if_neg (by omega), if_pos (by omega), if_neg (by omega), if_pos (by omega)]; omega
    rw [e1, e2]
    by_cases c : f + j < t
    · rw [if_pos c, if_pos (by omega), if_neg (by omega)]
      congr 1
      omega
    · rw [if_neg c, if_neg (by omega)]
  · have e1 : X.toNat = f := by rw [← hX, if_pos (by omega)]; omega
    have e2 : (max X Y).toNat = t := by rw [← hX, ← hY, if_pos (by omega), if_neg (by omega), if_pos (by omega)]; omega
    rw [e1, e2]
    by_cases c : f + j < t
    · rw [if_pos c, if_pos c]
      by_cases c2 : f + j < a
      · rw [if_pos (by omega), if_pos (by omega), if_pos (by omega)]
      · rw [if_neg (by omega)]
        congr 1
        omega
    · rw [if_neg c, if_neg c]
end Go.Proofs.Yteclkkbebinkpaa

/- The plain law of the heap: it is the things in order. No program is named here. -/
import Derived.Test.YtmgpofdmfmeljaaJg
namespace Go.Proofs.Ytmgpofdmfmeljaa

theorem getD_set (X : List It) (i j : Nat) (x : It) (hi : i < X.length) : (X.set i x).getD j z6 = if j = i then x else X.getD j z6 := by
  rw [List.getD_eq_getElem?_getD, List.getD_eq_getElem?_getD, List.getElem?_set]
  by_cases h : j = i
  · subst h
    simp [hi]
  · rw [if_neg (fun e => h e.symm), if_neg h]
theorem getD_swp (X : List It) (i k j : Nat) (hi : i < X.length) (hk : k < X.length) : (swp X i k).getD j z6 = if j = k then X.getD i z6 else if j = i then X.getD k z6 else X.getD j z6 := by
  unfold swp
  rw [getD_set _ _ _ _ (by rw [List.length_set]; exact hk), getD_set _ _ _ _ hi]
theorem swp_perm (X : List It) (i k : Nat) (hi : i < X.length) (hk : k < X.length) : (swp X i k).Perm X := by
  unfold swp
  have e1 : X.getD k z6 = X[k] := by rw [List.getD_eq_getElem?_getD, List.getElem?_eq_getElem hk]; rfl
  have e2 : X.getD i z6 = X[i] := by rw [List.getD_eq_getElem?_getD, List.getElem?_eq_getElem hi]; rfl
  rw [e1, e2]
  exact List.set_set_perm hi hk

/-- each thing is behind its parent -/
def Heap3 (kv : Kv) (X : List It) : Prop := ∀ j, 0 < j → j < X.length → LeP kv (X.getD ((j - 1) / 2) z6) (X.getD j z6)
/-- each but the thing at i, whose kids are behind its parent -/
def UpBut (kv : Kv) (X : List It) (i : Nat) : Prop :=
  (∀ j, 0 < j → j < X.length → j ≠ i → LeP kv (X.getD ((j - 1) / 2) z6) (X.getD j z6)) ∧
  (∀ j, 0 < j → j < X.length → (j - 1) / 2 = i → 0 < i → LeP kv (X.getD ((i - 1) / 2) z6) (X.getD j z6))
theorem up_heap (kv : Kv) : ∀ (f : Nat) (X : List It) (i : Nat), i ≤ f → i < X.length → UpBut kv X i → Heap3 kv (upL kv f X i) ∧ (upL kv f X i).Perm X
  | 0, X, i, h, hi, hu => by
    obtain rfl : i = 0 := by omega
    exact ⟨fun j h0 hj => hu.1 j h0 hj (by omega), List.Perm.refl _⟩
  | f + 1, X, i, h, hi, hu => by
    simp only [upL]
    by_cases hc : 0 < i ∧ ltI kv (X.getD i z6) (X.getD ((i - 1) / 2) z6) = true
    · rw [if_pos hc]
      obtain ⟨h0, hlt⟩ := hc
      have hle := ltI_le hlt
      obtain ⟨p, hp⟩ : ∃ p, (i - 1) / 2 = p := ⟨_, rfl⟩
      have hpi : p < i := by omega
      rw [hp] at hlt hle ⊢
      have hu2 : UpBut kv (swp X i p) p := by
        refine ⟨fun j j0 hj hjp => ?_, fun j j0 hj hjp p0 => ?_⟩
        · rw [swp_length] at hj
          rw [getD_swp X i p _ hi (by omega), getD_swp X i p _ hi (by omega)]
          rw [if_neg hjp]
          by_cases hji : j = i
          · subst hji
            rw [if_pos rfl, hp, if_pos rfl]
            exact hle
          · rw [if_neg hji]
            by_cases hq : (j - 1) / 2 = p
            · rw [if_pos hq]
              have := hu.1 j j0 hj hji
              rw [hq] at this
              exact LeP.trans hle this
            · rw [if_neg hq]
              by_cases hqi : (j - 1) / 2 = i
              · rw [if_pos hqi]
                have := hu.2 j j0 hj hqi h0
                rw [hp] at this
                exact this
              · rw [if_neg hqi]
                exact hu.1 j j0 hj hji
        · rw [swp_length] at hj
          rw [getD_swp X i p _ hi (by omega), getD_swp X i p _ hi (by omega)]
          rw [if_neg (by omega), if_neg (by omega), if_neg (by omega)]
          have hpp : LeP kv (X.getD ((p - 1) / 2) z6) (X.getD p z6) := hu.1 p p0 (by omega) (by omega)
          by_cases hji : j = i
          · subst hji
            rw [if_pos rfl]
            exact hpp
          · rw [if_neg hji]
            have := hu.1 j j0 hj hji
            rw [hjp] at this
            exact LeP.trans hpp this
      obtain ⟨a, b⟩ := up_heap kv f (swp X i p) p (by omega) (by rw [swp_length]; omega) hu2
      exact ⟨a, b.trans (swp_perm X i p hi (by omega))⟩
    · rw [if_neg hc]
      refine ⟨fun j h0 hj => ?_, List.Perm.refl _⟩
      by_cases hji : j = i
      · subst hji
        exact not_ltI (fun hlt => hc ⟨h0, hlt⟩)
      · exact hu.1 j h0 hj hji

/-- each but the kids of the thing at i, which are behind its parent -/
def DownBut (kv : Kv) (X : List It) (i : Nat) : Prop :=
  (∀ j, 0 < j → j < X.length → (j - 1) / 2 ≠ i → LeP kv (X.getD ((j - 1) / 2) z6) (X.getD j z6)) ∧
  (∀ j, 0 < j → j < X.length → (j - 1) / 2 = i → 0 < i → LeP kv (X.getD ((i - 1) / 2) z6) (X.getD j z6))
theorem lst_least (kv : Kv) (X : List It) (i : Nat) : ∀ (m j : Nat), j < m → 2 * i + 1 + j < X.length → LeP kv (X.getD (lstL kv X i m) z6) (X.getD (2 * i + 1 + j) z6)
  | 0, j, h, _ => by omega
  | m + 1, j, h, hl => by
    simp only [lstL]
    by_cases hc : 2 * i + 1 + m < X.length ∧ ltI kv (X.getD (2 * i + 1 + m) z6) (X.getD (lstL kv X i m) z6) = true
    · rw [if_pos hc]
      rcases (show j = m ∨ j < m by omega) with rfl | hj
      · exact LeP.refl _ _
      · exact LeP.trans (ltI_le hc.2) (lst_least kv X i m j hj hl)
    · rw [if_neg hc]
      rcases (show j = m ∨ j < m by omega) with rfl | hj
      · exact not_ltI (fun hh => hc ⟨hl, hh⟩)
      · exact lst_least kv X i m j hj hl
theorem lst_self (kv : Kv) (X : List It) (i : Nat) : ∀ (m : Nat), LeP kv (X.getD (lstL kv X i m) z6) (X.getD i z6)
  | 0 => LeP.refl _ _
  | m + 1 => by
    simp only [lstL]
    split
    · rename_i hc
      exact LeP.trans (ltI_le hc.2) (lst_self kv X i m)
    · exact lst_self kv X i m
theorem down_heap (kv : Kv) : ∀ (f : Nat) (X : List It) (i : Nat), X.length ≤ f + i → i < X.length → DownBut kv X i → Heap3 kv (downL kv f X i) ∧ (downL kv f X i).Perm X
  | 0, X, i, h, hi, hu => by omega
  | f + 1, X, i, h, hi, hu => by
    simp only [downL]
    have hl := lstL_lt kv X i 2 hi
    obtain ⟨m, hm⟩ : ∃ m, lstL kv X i 2 = m := ⟨_, rfl⟩
    have hk : ∀ j, 0 < j → j < X.length → (j - 1) / 2 = i → LeP kv (X.getD m z6) (X.getD j z6) := fun j j0 hj hji => by
      have := lst_least kv X i 2 (j - (2 * i + 1)) (by omega) (by omega)
      rw [hm, show 2 * i + 1 + (j - (2 * i + 1)) = j by omega] at this
      exact this
    have hs := lst_self kv X i 2
    rw [hm] at hl hs ⊢
    by_cases hc : m = i
    · rw [if_pos hc]
      subst hc
      refine ⟨fun j j0 hj => ?_, List.Perm.refl _⟩
      by_cases hji : (j - 1) / 2 = m
      · rw [hji]
        exact hk j j0 hj hji
      · exact hu.1 j j0 hj hji
    · rw [if_neg hc]
      have hmi : (m - 1) / 2 = i := by omega
      have hu2 : DownBut kv (swp X i m) m := by
        refine ⟨fun j j0 hj hjp => ?_, fun j j0 hj hjp p0 => ?_⟩
        · rw [swp_length] at hj
          rw [getD_swp X i m _ hi hl.1, getD_swp X i m _ hi hl.1]
          rw [if_neg hjp]
          by_cases hqi : (j - 1) / 2 = i
          · rw [if_pos hqi]
            by_cases hjm : j = m
            · rw [if_pos hjm]
              exact hs
            · rw [if_neg hjm, if_neg (by omega)]
              exact hk j j0 hj hqi
          · rw [if_neg hqi, if_neg (by intro e; subst e; exact hqi hmi)]
            by_cases hji : j = i
            · subst hji
              rw [if_pos rfl]
              exact hu.2 m (by omega) hl.1 hmi j0
            · rw [if_neg hji]
              exact hu.1 j j0 hj hqi
        · rw [swp_length] at hj
          rw [getD_swp X i m _ hi hl.1, getD_swp X i m _ hi hl.1]
          rw [hmi, if_neg (by omega), if_pos rfl, if_neg (by omega), if_neg (by omega)]
          have := hu.1 j j0 hj (by omega)
          rw [hjp] at this
          exact this
      obtain ⟨a, b⟩ := down_heap kv f (swp X i m) m (by rw [swp_length]; omega) (by rw [swp_length]; omega) hu2
      exact ⟨a, b.trans (swp_perm X i m hi hl.1)⟩

theorem heap_least (kv : Kv) (X : List It) (h : Heap3 kv X) : ∀ j, j < X.length → LeP kv (X.getD 0 z6) (X.getD j z6) := by
  intro j
  induction j using Nat.strongRecOn with
  | ind j ih =>
    intro hj
    rcases Nat.eq_zero_or_pos j with rfl | h0
    · exact LeP.refl _ _
    · exact LeP.trans (ih ((j - 1) / 2) (by omega) (by omega)) (h j h0 hj)

/-- the heap X stands for the things R, in order -/
structure Models (kv : Kv) (X R : List It) : Prop where
  heap : Heap3 kv X
  perm : X.Perm R
  sorted : R.Pairwise fun a b => ltI kv a b = true
/-- a thing is put in its place -/
def insL (kv : Kv) : List It → It → List It
  | [], x => [x]
  | r :: R, x => if ltI kv x r = true then x :: r :: R else r :: insL kv R x
theorem insL_perm (kv : Kv) (R : List It) (x : It) : (insL kv R x).Perm (R ++ [x]) := by
  induction R with
  | nil => exact List.Perm.refl _
  | cons r R ih =>
    simp only [insL]
    split
    · exact (List.perm_append_comm (l₁ := [x]) (l₂ := r :: R))
    · exact ih.cons r
theorem insL_mem (kv : Kv) (R : List It) (x y : It) : y ∈ insL kv R x ↔ y ∈ R ∨ y = x := by
  rw [(insL_perm kv R x).mem_iff]
  simp
theorem insL_sorted (kv : Kv) (R : List It) (x : It) (h : R.Pairwise fun a b => ltI kv a b = true) (hx : ∀ y ∈ R, y.1 < x.1) : (insL kv R x).Pairwise fun a b => ltI kv a b = true := by
  induction R with
  | nil => simp [insL]
  | cons r R ih =>
    have h1 := List.pairwise_cons.1 h
    simp only [insL]
    split
    · rename_i hlt
      refine List.pairwise_cons.2 ⟨fun y hy => ?_, h⟩
      rw [ltI_iff] at hlt ⊢
      rcases List.mem_cons.1 hy with rfl | hy
      · exact hlt
      · have := h1.1 y hy
        rw [ltI_iff] at this
        exact hlt.trans this
    · rename_i hlt
      refine List.pairwise_cons.2 ⟨fun y hy => ?_, ih h1.2 (fun y hy => hx y (List.mem_cons_of_mem _ hy))⟩
      rcases (insL_mem kv R x y).1 hy with hy | rfl
      · exact h1.1 y hy
      · have h2 := not_ltI hlt
        have h3 := hx r List.mem_cons_self
        rw [ltI_iff]
        unfold LeP LtP Lx at *
        omega
theorem models_nil (kv : Kv) : Models kv [] [] := ⟨fun j _ h => by simp at h, List.Perm.refl _, List.Pairwise.nil⟩
theorem getD_append_lt (X : List It) (x : It) (j : Nat) (h : j < X.length) : (X ++ [x]).getD j z6 = X.getD j z6 := by
  rw [List.getD_eq_getElem?_getD, List.getD_eq_getElem?_getD, List.getElem?_append_left h]
theorem put_models {kv : Kv} {X R : List It} {x : It} (h : Models kv X R) (hc : ∀ y ∈ R, y.1 < x.1) : Models kv (putL kv X x) (insL kv R x) := by
  obtain ⟨a, b⟩ := up_heap kv X.length (X ++ [x]) X.length (Nat.le_refl _) (by simp) ⟨fun j j0 hj hne => by
      have hj' : j < X.length := by simp at hj; omega
      rw [getD_append_lt _ _ _ hj', getD_append_lt _ _ _ (by omega)]
      exact h.heap j j0 hj', fun j j0 hj hji => by
      simp at hj
      omega⟩
  exact ⟨a, b.trans ((h.perm.append_right _).trans (insL_perm kv R _).symm), insL_sorted kv R _ h.sorted hc⟩
theorem models_length {kv : Kv} {X R : List It} (h : Models kv X R) : X.length = R.length := h.perm.length_eq
theorem getD_mem (X : List It) (j : Nat) (h : j < X.length) : X.getD j z6 ∈ X := by
  rw [List.getD_eq_getElem?_getD, List.getElem?_eq_getElem h]
  exact List.getElem_mem h
theorem getD_of_mem (X : List It) (x : It) (h : x ∈ X) : ∃ j, j < X.length ∧ X.getD j z6 = x := by
  obtain ⟨j, hj, he⟩ := List.getElem_of_mem h
  exact ⟨j, hj, by rw [List.getD_eq_getElem?_getD, List.getElem?_eq_getElem hj]; exact he⟩
theorem least_models {kv : Kv} {X R : List It} {r : It} (h : Models kv X (r :: R)) : X.getD 0 z6 = r := by
  have hl := models_length h
  simp at hl
  have hm : X.getD 0 z6 ∈ r :: R := h.perm.mem_iff.1 (getD_mem X 0 (by omega))
  rcases List.mem_cons.1 hm with e | hR
  · exact e
  · have h1 := (List.pairwise_cons.1 h.sorted).1 _ hR
    obtain ⟨j, hj, he⟩ := getD_of_mem X r (h.perm.mem_iff.2 List.mem_cons_self)
    have h2 := heap_least kv X h.heap j hj
    rw [he] at h2
    rw [ltI_iff] at h1
    exact absurd h1 h2
theorem take_models {kv : Kv} {X R : List It} {r : It} (h : Models kv X (r :: R)) : Models kv (takeL kv X) R := by
  have hl := models_length h
  simp at hl
  obtain ⟨n, hn⟩ : ∃ n, X.length = n + 1 := ⟨R.length, hl⟩
  have hleast := least_models h
  have hperm : ((X.set 0 (X.getD n z6)).take n).Perm R := by
    have e1 : X.Perm (X.getD 0 z6 :: (X.set 0 (X.getD n z6)).take n) := by
      cases X with
      | nil => simp at hn
      | cons x X =>
        simp only [List.length_cons, Nat.add_right_cancel_iff] at hn
        cases n with
        | zero =>
          have : X = [] := List.eq_nil_of_length_eq_zero hn
          subst this
          simp
        | succ n =>
          have hX : X = X.take n ++ [X.getD n z6] := by
            conv => lhs; rw [← List.take_append_drop n X]
            congr 1
            rw [List.drop_eq_getElem_cons (by omega), List.drop_of_length_le (by omega), List.getD_eq_getElem?_getD, List.getElem?_eq_getElem (by omega)]
            rfl
          have e2 : (x :: X).getD (n + 1) z6 = X.getD n z6 := by simp [List.getD_eq_getElem?_getD]
          rw [e2]
          show (x :: X).Perm (x :: (X.getD n z6 :: X.take n))
          refine List.Perm.cons x ?_
          conv => lhs; rw [hX]
          exact List.perm_append_comm
    rw [hleast] at e1
    exact (e1.symm.trans h.perm).cons_inv
  unfold takeL
  rw [hn, Nat.add_sub_cancel]
  rcases Nat.eq_zero_or_pos n with rfl | hn0
  · have hR : R = [] := List.eq_nil_of_length_eq_zero (by omega)
    subst hR
    simp only [List.take_zero, downL]
    exact models_nil kv
  · have hlen : ((X.set 0 (X.getD n z6)).take n).length = n := by rw [List.length_take, List.length_set]; omega
    have hg : ∀ j, j < n → j ≠ 0 → ((X.set 0 (X.getD n z6)).take n).getD j z6 = X.getD j z6 := fun j hj h0 => by
      rw [List.getD_eq_getElem?_getD, List.getElem?_take_of_lt hj, List.getElem?_set, if_neg (by omega), List.getD_eq_getElem?_getD]
    obtain ⟨a, b⟩ := down_heap kv n ((X.set 0 (X.getD n z6)).take n) 0 (by omega) (by omega) ⟨fun j j0 hj hne => by
        rw [hlen] at hj
        rw [hg _ hj (by omega), hg _ (by omega) (by omega)]
        exact h.heap j j0 (by omega), fun j j0 hj hji h0 => by omega⟩
    exact ⟨a, b.trans hperm, (List.pairwise_cons.1 h.sorted).2⟩
end Go.Proofs.Ytmgpofdmfmeljaa

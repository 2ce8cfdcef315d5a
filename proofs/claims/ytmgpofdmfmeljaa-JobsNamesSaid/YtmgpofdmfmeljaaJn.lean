/- Jobs in order: plain. No program is named here. -/
import Derived.Test.YtmgpofdmfmeljaaJm
namespace Go.Proofs.Ytmgpofdmfmeljaa

/-- jobs may be: told of all at once -/
structure CheckQ (ds : List Dt) : Prop where
  len : ds.length ≤ 32
  ok : ∀ d ∈ ds, 0 ≤ d.slot ∧ d.slot < 64 ∧ 0 ≤ d.lo ∧ d.lo ≤ d.hi ∧ 0 ≤ d.age ∧ 0 ≤ d.lev
  rise : ds.Pairwise fun a b => a.slot < b.slot
theorem getD_at {ds : List Dt} {k : Nat} (h : k < ds.length) : ds.getD k d0 = ds[k] := by
  rw [List.getD_eq_getElem?_getD, List.getElem?_eq_getElem h]
  rfl
theorem CheckP.rise {ds : List Dt} (h : CheckP ds) : ∀ (j i : Nat), i < j → j < ds.length → (ds.getD i d0).slot < (ds.getD j d0).slot := by
  intro j
  induction j with
  | zero => intro i hi; omega
  | succ j ih =>
    intro i hi hj
    have h1 := (h.2 (j + 1) hj).1
    unfold lastS at h1
    rw [if_neg (by omega), Nat.add_sub_cancel] at h1
    rcases (show i = j ∨ i < j by omega) with rfl | hij
    · exact h1
    · have := ih i hij (by omega)
      omega
theorem CheckP.q {ds : List Dt} (h : CheckP ds) : CheckQ ds := by
  refine ⟨h.1, fun d hd => ?_, ?_⟩
  · obtain ⟨k, hk, rfl⟩ := List.getElem_of_mem hd
    have h1 := h.2 k hk
    have h0 := (h.2 0 (by omega)).1
    unfold lastS at h0
    rw [if_pos rfl] at h0
    rw [getD_at hk] at h1
    obtain ⟨a1, a2, a3, a4, a5, a6⟩ := h1
    refine ⟨?_, a2, a3, a4, a5, a6⟩
    rcases (show k = 0 ∨ 0 < k by omega) with rfl | hk0
    · rw [getD_at hk] at h0
      omega
    · have := h.rise k 0 hk0 hk
      rw [getD_at hk] at this
      omega
  · rw [List.pairwise_iff_getElem]
    intro i j hi hj hij
    have := h.rise j i hij hj
    rw [getD_at hi, getD_at hj] at this
    exact this
theorem CheckQ.p {ds : List Dt} (h : CheckQ ds) : CheckP ds := by
  refine ⟨h.len, fun k hk => ?_⟩
  obtain ⟨a1, a2, a3, a4, a5, a6⟩ := h.ok ds[k] (List.getElem_mem hk)
  rw [getD_at hk]
  refine ⟨?_, a2, a3, a4, a5, a6⟩
  unfold lastS
  split
  · omega
  · rw [getD_at (by omega)]
    exact (List.pairwise_iff_getElem.1 h.rise) (k - 1) k (by omega) hk (by omega)
theorem CheckQ.keep {ds : List Dt} (h : CheckQ ds) (n : Int) : CheckQ (keepF n ds) :=
  ⟨Nat.le_trans (List.length_filter_le _ _) h.len, fun d hd => h.ok d (List.mem_filter.1 hd).1, h.rise.filter _⟩
/-- one job's key is ahead of another one's -/
def LtD (k : Kv) (a b : Dt) : Prop := Lx (k1 k a) (k2 k a) (k3 k a) (k4 k a) 0 (k1 k b) (k2 k b) (k3 k b) (k4 k b) 0
theorem key_slot {k : Kv} {a b : Dt} (h1 : k1 k a = k1 k b) (h3 : k3 k a = k3 k b) (h4 : k4 k a = k4 k b) : a.slot = b.slot := by
  unfold k1 at h1
  unfold k3 at h3
  unfold k4 at h4
  rcases late01 k a with ⟨ha, fa⟩ | ⟨ha, fa⟩ <;> rcases late01 k b with ⟨hb, fb⟩ | ⟨hb, fb⟩
  · rw [if_pos ha, if_pos hb] at h3
    exact h3
  · omega
  · omega
  · rw [if_neg ha, if_neg hb] at h4
    exact h4
theorem LtP.key {k : Kv} {a b : It} (h : LtP k a b) (hne : a.2.slot ≠ b.2.slot) : LtD k a.2 b.2 := by
  have hk : ¬ (k1 k a.2 = k1 k b.2 ∧ k3 k a.2 = k3 k b.2 ∧ k4 k a.2 = k4 k b.2) := fun ⟨h1, h3, h4⟩ => hne (key_slot h1 h3 h4)
  unfold LtP Lx at h
  unfold LtD Lx
  omega
theorem LtD.asymm {k : Kv} {a b : Dt} (h : LtD k a b) (h' : LtD k b a) : False := by
  unfold LtD Lx at *
  omega
/-- jobs in order -/
def sortD (k : Kv) (ds : List Dt) : List Dt := (qR k ds).map (·.2)
theorem slotsF_sort (k : Kv) (ds : List Dt) : slotsF (qR k ds) = (sortD k ds).map (·.slot) := by
  unfold slotsF sortD
  rw [List.map_map]
  rfl
theorem sortD_length (k : Kv) (ds : List Dt) : (sortD k ds).length = ds.length := by unfold sortD; rw [List.length_map, qR_length]
theorem qL_perm (k : Kv) (ds : List Dt) : ∀ i, i ≤ ds.length → ((qL k ds i).map (·.2)).Perm (ds.take i) := by
  intro i
  induction i with
  | zero => intro _; rw [List.take_zero]; exact List.Perm.refl _
  | succ i ih =>
    intro hi
    have h1 := (insL_perm k (qL k ds i) ((i : Int), ds.getD i d0)).map (·.2)
    rw [List.map_append] at h1
    rw [take_succ' ds i (by omega)]
    exact h1.trans ((ih (by omega)).append_right _)
theorem sortD_perm (k : Kv) (ds : List Dt) : (sortD k ds).Perm ds := by
  have := qL_perm k ds ds.length (Nat.le_refl _)
  rw [List.take_length] at this
  exact this
theorem qL_num (k : Kv) (ds : List Dt) : ∀ i, ∀ y ∈ qL k ds i, y.1 < (i : Int) := by
  intro i
  induction i with
  | zero => intro y hy; cases hy
  | succ i ih =>
    intro y hy
    rcases (insL_mem k _ _ _).1 hy with hy | rfl
    · have := ih y hy
      omega
    · show (i : Int) < _
      omega
theorem qL_sorted (k : Kv) (ds : List Dt) : ∀ i, (qL k ds i).Pairwise fun a b => ltI k a b = true := by
  intro i
  induction i with
  | zero => exact List.Pairwise.nil
  | succ i ih => exact insL_sorted k _ _ ih fun y hy => qL_num k ds i y hy
theorem slots_nodup {ds : List Dt} (h : CheckQ ds) : (ds.map (·.slot)).Nodup := by
  refine List.pairwise_map.2 (h.rise.imp fun {a b} hab he => ?_)
  omega
theorem sortD_sorted (k : Kv) {ds : List Dt} (h : CheckQ ds) : (sortD k ds).Pairwise (LtD k) := by
  have h1 : ((sortD k ds).map (·.slot)).Nodup := ((sortD_perm k ds).map (·.slot)).nodup_iff.2 (slots_nodup h)
  have h2 := qL_sorted k ds ds.length
  unfold sortD at *
  rw [List.map_map] at h1
  have h3 : (qR k ds).Pairwise fun a b => a.2.slot ≠ b.2.slot := List.pairwise_map.1 h1
  exact List.pairwise_map.2 ((h2.and h3).imp fun {a b} hab => ((ltI_iff k a b).1 hab.1).key hab.2)
/-- what is in order is one list -/
theorem sorted_one {k : Kv} : ∀ {l m : List Dt}, l.Pairwise (LtD k) → m.Pairwise (LtD k) → l.Perm m → l = m
  | [], m, _, _, hp => (List.Perm.nil_eq hp)
  | a :: l, m, hl, hm, hp => by
    cases m with
    | nil => exact absurd hp.symm (by intro h; have := h.length_eq; simp at this)
    | cons b m =>
      have ha : a = b := by
        have h1 : a ∈ b :: m := hp.mem_iff.1 List.mem_cons_self
        have h2 : b ∈ a :: l := hp.mem_iff.2 List.mem_cons_self
        rcases List.mem_cons.1 h1 with h1 | h1
        · exact h1
        · rcases List.mem_cons.1 h2 with h2 | h2
          · exact h2.symm
          · exact absurd ((List.pairwise_cons.1 hl).1 b h2) (fun h => h.asymm ((List.pairwise_cons.1 hm).1 a h1))
      subst ha
      rw [sorted_one (List.pairwise_cons.1 hl).2 (List.pairwise_cons.1 hm).2 hp.cons_inv]
theorem sortD_keep (k : Kv) {ds : List Dt} (h : CheckQ ds) {d : Dt} {t : List Dt} (hs : sortD k ds = d :: t) : sortD k (keepF d.slot ds) = t := by
  have hsd := sortD_sorted k h
  have hp := sortD_perm k ds
  have hnd : ((sortD k ds).map (·.slot)).Nodup := (hp.map (·.slot)).nodup_iff.2 (slots_nodup h)
  rw [hs] at hsd hp hnd
  refine sorted_one (sortD_sorted k (h.keep _)) (List.pairwise_cons.1 hsd).2 ((sortD_perm k _).trans ?_)
  have h1 := hp.filter fun e => e.slot != d.slot
  have h2 : (d :: t).filter (fun e => e.slot != d.slot) = t := by
    rw [List.filter_cons_of_neg (by simp)]
    rw [List.filter_eq_self]
    intro e he
    simp only [List.map_cons, List.nodup_cons] at hnd
    simp only [bne_iff_ne, ne_eq]
    intro heq
    exact hnd.1 (heq ▸ List.mem_map.2 ⟨e, he, rfl⟩)
  rw [h2] at h1
  exact h1.symm
end Go.Proofs.Ytmgpofdmfmeljaa

/- Whoever waits is next at last: plain. -/
import Derived.Test.YtmgpofdmfmeljaaJq
namespace Go.Proofs.Ytmgpofdmfmeljaa

/-- who is next -/
def topD (k : Kv) (ds : List Dt) : Dt := ((qR k ds).getD 0 z6).2
theorem topD_head {k : Kv} {ds : List Dt} (h : 0 < ds.length) : ∃ t, sortD k ds = topD k ds :: t := by
  unfold sortD topD
  cases hq : qR k ds with
  | nil => have := qR_length k ds; rw [hq] at this; simp at this; omega
  | cons r R => exact ⟨R.map (·.2), rfl⟩
theorem topD_mem {k : Kv} {ds : List Dt} (h : 0 < ds.length) : topD k ds ∈ ds := by
  obtain ⟨t, ht⟩ := topD_head (k := k) h
  exact (sortD_perm k ds).mem_iff.1 (by rw [ht]; simp)
theorem topD_least {k : Kv} {ds : List Dt} (hc : CheckQ ds) (h : 0 < ds.length) {d : Dt} (hd : d ∈ ds) : d = topD k ds ∨ LtD k (topD k ds) d := by
  obtain ⟨t, ht⟩ := topD_head (k := k) h
  have h1 := (sortD_perm k ds).mem_iff.2 hd
  have h2 := sortD_sorted k hc
  rw [ht] at h1 h2
  rcases List.mem_cons.1 h1 with h1 | h1
  · exact .inl h1
  · exact .inr ((List.pairwise_cons.1 h2).1 d h1)
/-- if anyone is late, the one who waited longest is next -/
theorem topD_old {k : Kv} {ds : List Dt} (hc : CheckQ ds) {d : Dt} (hd : d ∈ ds) (hl : k.wait ≤ d.age) : d.age ≤ (topD k ds).age := by
  have h0 : 0 < ds.length := List.length_pos_of_mem hd
  rcases topD_least (k := k) hc h0 hd with h | h
  · rw [← h]; exact Int.le_refl _
  · unfold LtD Lx k1 k2 lateF at h
    rw [if_pos hl, if_pos hl] at h
    by_cases ht : k.wait ≤ (topD k ds).age
    · rw [if_pos ht, if_pos ht] at h
      omega
    · rw [if_neg ht] at h
      omega
/-- a job behind a round in which s was served -/
def nextD (s : Int) (d : Dt) : Dt := if d.slot = s then { d with age := 0 } else { d with age := d.age + 1 }
theorem nextD_eq (s : Int) (d : Dt) (h : d.age < 1000000) : tickF (fun y => decide (y ∈ [s])) (serveF s d) = nextD s d := by
  unfold tickF serveF nextD
  by_cases hs : d.slot = s
  · rw [if_pos hs, if_pos hs, if_pos (by simpa using hs)]
  · rw [if_neg hs, if_neg hs, if_neg (by simpa using hs), if_pos h]
theorem nextD_slot (s : Int) (d : Dt) : (nextD s d).slot = d.slot := by unfold nextD; split <;> rfl
theorem countP_lt' {α : Type} {p q : α → Bool} {x : α} : ∀ {l : List α}, (∀ a ∈ l, p a = true → q a = true) → x ∈ l → q x = true → p x = false → l.countP p + 1 ≤ l.countP q
  | [], _, hx, _, _ => by simp at hx
  | a :: l, h, hx, h1, h2 => by
    have hm : l.countP p ≤ l.countP q := List.countP_mono_left fun b hb => h b (List.mem_cons_of_mem _ hb)
    rcases List.mem_cons.1 hx with rfl | hx
    · rw [List.countP_cons_of_pos h1, List.countP_cons_of_neg (by rw [h2]; simp)]
      omega
    · have ih := countP_lt' (fun b hb => h b (List.mem_cons_of_mem _ hb)) hx h1 h2
      cases hp : p a with
      | false =>
        rw [List.countP_cons_of_neg (by rw [hp]; simp)]
        have := (List.sublist_cons_self a l).countP_le (p := q)
        omega
      | true =>
        rw [List.countP_cons_of_pos hp, List.countP_cons_of_pos (h a (by simp) hp)]
        omega
/-- behind n rounds -/
structure StD (J wt n : Nat) (ds : List Dt) (last : Int → Int) : Prop where
  check : CheckP ds
  len : ds.length = J
  age : ∀ d ∈ ds, d.age = (n : Int) - last d.slot
  few : ∀ i : Nat, i ≤ J → ds.countP (fun d => decide ((wt : Int) + i ≤ d.age)) + i ≤ J
section
variable {J wt n : Nat} {ds : List Dt} {last : Int → Int}
theorem CheckP.mem (h : CheckP ds) {d : Dt} (hd : d ∈ ds) : 0 ≤ d.slot ∧ d.slot < 64 ∧ 0 ≤ d.lo ∧ d.lo ≤ d.hi ∧ 0 ≤ d.age ∧ 0 ≤ d.lev := by
  obtain ⟨j, hj, rfl⟩ := List.getElem_of_mem hd
  have h1 := h.2 j hj
  rw [getD_at hj] at h1
  have h2 : -1 ≤ lastS ds j := by
    unfold lastS
    split
    · omega
    · have h3 := h.2 (j - 1) (by omega)
      unfold OkD at h3
      have h4 : -1 ≤ lastS ds (j - 1) := by
        unfold lastS
        split
        · omega
        · have h5 : ∀ m, m < ds.length → 0 ≤ (ds.getD m d0).slot := by
            intro m
            induction m with
            | zero => intro hm; have := (h.2 0 hm).1; unfold lastS at this; rw [if_pos rfl] at this; omega
            | succ m ih => intro hm; have h6 := (h.2 (m + 1) hm).1; unfold lastS at h6; rw [if_neg (by omega), Nat.add_sub_cancel] at h6; have := ih (by omega); omega
          have := h5 (j - 1 - 1) (by omega)
          omega
      omega
  unfold OkD at h1
  omega
theorem CheckP.map (h : CheckP ds) (F : Dt → Dt) (h1 : ∀ d, (F d).slot = d.slot ∧ (F d).lo = d.lo ∧ (F d).hi = d.hi ∧ (F d).lev = d.lev) (h2 : ∀ d ∈ ds, 0 ≤ (F d).age) : CheckP (ds.map F) := by
  refine ⟨by rw [List.length_map]; exact h.1, fun k hk => ?_⟩
  rw [List.length_map] at hk
  have e : ∀ m, m < ds.length → (ds.map F).getD m d0 = F (ds.getD m d0) := fun m hm => by
    rw [getD_at (by rw [List.length_map]; exact hm), List.getElem_map, getD_at hm]
  have e2 : lastS (ds.map F) k = lastS ds k := by
    unfold lastS
    split
    · rfl
    · rw [e _ (by omega), (h1 _).1]
  rw [e k hk, e2]
  have h3 := h.2 k hk
  have h4 := h2 (ds.getD k d0) (by rw [getD_at hk]; exact List.getElem_mem hk)
  obtain ⟨a1, a2, a3, a4⟩ := h1 (ds.getD k d0)
  unfold OkD at *
  omega
theorem StD.age_le (h : StD J wt n ds last) {d : Dt} (hd : d ∈ ds) : d.age < (wt : Int) + J := by
  have h1 := h.few J (Nat.le_refl _)
  have h2 : ds.countP (fun d => decide ((wt : Int) + J ≤ d.age)) = 0 := by omega
  have h3 := (List.countP_eq_zero.1 h2) d hd
  have h4 : ¬ ((wt : Int) + J ≤ d.age) := by simpa using h3
  omega
theorem StD.ok (h : StD J wt n ds last) (s : Int) {d : Dt} (hd : d ∈ ds) : 0 ≤ (n : Int) + 1 - (if d.slot = s then (n : Int) + 1 else last d.slot) ∧ (n : Int) + 1 - (if d.slot = s then (n : Int) + 1 else last d.slot) ≤ (wt : Int) + J := by
  have h1 := h.age_le hd
  have h2 := h.age d hd
  have h3 := h.check.mem hd
  split <;> omega
theorem StD.step (h : StD J wt n ds last) (k : Kv) (hw : k.wait = wt) (h1 : 1 ≤ wt) (h0 : 0 < J) :
    StD J wt (n + 1) (ds.map (nextD (topD k ds).slot)) (fun y => if y = (topD k ds).slot then ((n + 1 : Nat) : Int) else last y) := by
  refine ⟨h.check.map _ (fun d => by unfold nextD; split <;> exact ⟨rfl, rfl, rfl, rfl⟩) (fun d hd => ?_), by rw [List.length_map]; exact h.len, fun d' hd' => ?_, fun i hi => ?_⟩
  · have := h.check.mem hd
    unfold nextD
    split
    · exact Int.le_refl _
    · show 0 ≤ d.age + 1
      omega
  · obtain ⟨d, hd, rfl⟩ := List.mem_map.1 hd'
    have h2 := h.age d hd
    show _ = ((n + 1 : Nat) : Int) - (if (nextD (topD k ds).slot d).slot = (topD k ds).slot then ((n + 1 : Nat) : Int) else last (nextD (topD k ds).slot d).slot)
    rw [nextD_slot]
    unfold nextD
    split
    · show (0 : Int) = _
      omega
    · show d.age + 1 = _
      omega
  · rw [List.countP_map]
    cases i with
    | zero =>
      have := List.countP_le_length (p := (fun d => decide ((wt : Int) + (0 : Nat) ≤ d.age)) ∘ nextD (topD k ds).slot) (l := ds)
      have := h.len
      omega
    | succ j =>
      have h2 := h.few j (by omega)
      have imp : ∀ a ∈ ds, ((fun d => decide ((wt : Int) + (j + 1 : Nat) ≤ d.age)) ∘ nextD (topD k ds).slot) a = true → decide ((wt : Int) + j ≤ a.age) = true := by
        intro a ha hp
        have hp2 : (wt : Int) + (j + 1 : Nat) ≤ (nextD (topD k ds).slot a).age := of_decide_eq_true hp
        refine decide_eq_true ?_
        unfold nextD at hp2
        split at hp2
        · have : (wt : Int) + (j + 1 : Nat) ≤ 0 := hp2
          omega
        · have : (wt : Int) + (j + 1 : Nat) ≤ a.age + 1 := hp2
          omega
      rcases Nat.eq_zero_or_pos (ds.countP fun d => decide ((wt : Int) + j ≤ d.age)) with hz | hz
      · have := List.countP_mono_left imp
        omega
      · obtain ⟨d, hd, hdl⟩ := List.countP_pos_iff.1 hz
        have hdl2 : (wt : Int) + j ≤ d.age := of_decide_eq_true hdl
        have h3 := topD_old (k := k) h.check.q hd (by rw [hw]; omega)
        have h4 := topD_mem (k := k) (ds := ds) (by rw [h.len]; exact h0)
        have h5 := countP_lt' imp h4 (decide_eq_true (by omega)) (by
          show decide ((wt : Int) + (j + 1 : Nat) ≤ (nextD (topD k ds).slot (topD k ds)).age) = false
          refine decide_eq_false ?_
          unfold nextD
          rw [if_pos rfl]
          show ¬ ((wt : Int) + (j + 1 : Nat) ≤ 0)
          omega)
        omega
theorem StD.start (hc : CheckP ds) : StD ds.length wt 0 (ds.map fun d => { d with age := 0 }) (fun _ => 0) ∨ wt = 0 := by
  rcases Nat.eq_zero_or_pos wt with h | h
  · exact .inr h
  · refine .inl ⟨hc.map _ (fun d => ⟨rfl, rfl, rfl, rfl⟩) (fun d _ => Int.le_refl _), List.length_map _, fun d hd => ?_, fun i hi => ?_⟩
    · obtain ⟨e, _, rfl⟩ := List.mem_map.1 hd
      rfl
    · rw [List.countP_map, List.countP_eq_zero.2 (fun a _ => by
        show ¬ decide ((wt : Int) + i ≤ 0) = true
        rw [decide_eq_true_iff]
        omega)]
      omega
end
end Go.Proofs.Ytmgpofdmfmeljaa

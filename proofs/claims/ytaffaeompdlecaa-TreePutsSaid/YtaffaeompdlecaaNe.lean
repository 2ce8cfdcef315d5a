/- Trees as lists: what an edit makes of one. No program is named here. -/
import Derived.Test.YtaffaeompdlecaaNq
namespace Go.Proofs.Ytaffaeompdlecaa

/-- an edit, and what it does to the bits of a part that it meets -/
structure Ed where
  a : Int
  d : Int
  i : Int
  om : Int → Int
/-- where a beginning, an end moves -/
def stF (x : Int) (E : Ed) : Int := if x < E.a then x else if E.a + E.d ≤ x then x - E.d + E.i else E.a + E.i
def enF (x : Int) (E : Ed) : Int := if x ≤ E.a then x else if E.a + E.d ≤ x then x - E.d + E.i else E.a
/-- an edit meets a span -/
def Meet (f t : Int) (E : Ed) : Prop := (0 < E.d ∧ E.a < t ∧ f < E.a + E.d) ∨ (0 < E.i ∧ f < E.a ∧ E.a < t)
instance (f t : Int) (E : Ed) : Decidable (Meet f t E) := inferInstanceAs (Decidable (_ ∨ _))
def ownLo (p : Nd) : Int := if p.kind = 1 then -1 else p.lo
def loE (E : Ed) (p : Nd) : Int := if p.kind = 1 then 0 else stF p.lo E
def hiE (E : Ed) (to : Int) (p : Nd) : Int := if p.kind = 1 then max 0 (max to (p.hi - E.d + E.i)) else max (loE E p) (max to (enF p.hi E))
def lookE (E : Ed) (p : Nd) : Int := if p.kind = 1 then 1 else if Meet (ownLo p) p.look E then max (max (loE E p + 1) (enF p.look E)) (E.a + 1) else max (loE E p + 1) (enF p.look E)
def innE (E : Ed) (to : Int) (p : Nd) : Int := if p.inn = p.lo then loE E p else min (max (loE E p) (stF p.inn E)) (hiE E to p)
def metE (E : Ed) (p : Nd) : Int := if Meet (ownLo p) p.look E then E.om p.met else p.met
/-- a part behind an edit; to: how far its kids go then -/
def editedF (E : Ed) (to : Int) (p : Nd) : Nd := { sym := p.sym, kind := p.kind, lo := loE E p, inn := innE E to p, hi := hiE E to p, look := lookE E p, kids := p.kids, met := metE E p }
def hiAt (l : List Nd) (k : Int) : Int := ((l[k.toNat]?).map (·.hi)).getD 0
def maxTo (l : List Nd) (ks : List Int) : Int := ks.foldl (fun t k => max t (hiAt l k)) 0
/-- a tree's parts behind an edit -/
def EditedR (E : Ed) (l out : List Nd) : Prop := out.length = l.length ∧ ∀ (j : Nat) (p : Nd), l[j]? = some p → out[j]? = some (editedF E (maxTo out p.kids) p)

theorem foldl_max (f : Int → Int) : ∀ (ks : List Int) (t : Int), t ≤ ks.foldl (fun t k => max t (f k)) t ∧ (∀ k ∈ ks, f k ≤ ks.foldl (fun t k => max t (f k)) t) ∧ ∀ B, t ≤ B → (∀ k ∈ ks, f k ≤ B) → ks.foldl (fun t k => max t (f k)) t ≤ B
  | [], t => ⟨Int.le_refl _, fun k hk => (by cases hk), fun B h _ => h⟩
  | k :: ks, t => by
    obtain ⟨h1, h2, h3⟩ := foldl_max f ks (max t (f k))
    rw [List.foldl_cons]
    refine ⟨by omega, fun k' hk' => ?_, fun B hB hk' => h3 B ?_ fun k'' hk'' => hk' k'' (List.mem_cons_of_mem _ hk'')⟩
    · rcases List.mem_cons.1 hk' with rfl | hk'
      · omega
      · exact h2 k' hk'
    · have := hk' k (List.mem_cons_self ..)
      omega
theorem maxTo_nonneg (l : List Nd) (ks : List Int) : 0 ≤ maxTo l ks := (foldl_max (hiAt l) ks 0).1
theorem maxTo_ge (l : List Nd) {ks : List Int} {k : Int} (hk : k ∈ ks) : hiAt l k ≤ maxTo l ks := (foldl_max (hiAt l) ks 0).2.1 k hk
theorem maxTo_le (l : List Nd) {ks : List Int} {B : Int} (h0 : 0 ≤ B) (h : ∀ k ∈ ks, hiAt l k ≤ B) : maxTo l ks ≤ B := (foldl_max (hiAt l) ks 0).2.2 B h0 h

theorem maxTo_congr {l l' : List Nd} {ks : List Int} (h : ∀ k ∈ ks, hiAt l k = hiAt l' k) : maxTo l ks = maxTo l' ks := by
  unfold maxTo
  suffices ∀ t, ks.foldl (fun t k => max t (hiAt l k)) t = ks.foldl (fun t k => max t (hiAt l' k)) t from this 0
  induction ks with
  | nil => intro t; rfl
  | cons k ks ih =>
    intro t
    rw [List.foldl_cons, List.foldl_cons, h k (List.mem_cons_self ..)]
    exact ih (fun k hk => h k (List.mem_cons_of_mem _ hk)) _
/-- there is one at most -/
theorem EditedR.one {E : Ed} {l a b : List Nd} (T : Tree l) (ha : EditedR E l a) (hb : EditedR E l b) : a = b := by
  have key : ∀ (n j : Nat), l.length - j ≤ n → a[j]? = b[j]? := by
    intro n
    induction n with
    | zero => intro j hj; rw [List.getElem?_eq_none (by have := ha.1; omega), List.getElem?_eq_none (by have := hb.1; omega)]
    | succ n ih =>
      intro j hj
      rcases Nat.lt_or_ge j l.length with hlt | hge
      · obtain ⟨p, hp⟩ : ∃ p, l[j]? = some p := ⟨_, List.getElem?_eq_getElem hlt⟩
        rw [ha.2 j p hp, hb.2 j p hp]
        congr 2
        refine maxTo_congr fun k hk => ?_
        obtain ⟨c, rfl, h1, h2⟩ := T.kid_behind hp k hk
        simp only [hiAt, Int.toNat_natCast]
        rw [ih c (by omega)]
      · rw [List.getElem?_eq_none (by have := ha.1; omega), List.getElem?_eq_none (by have := hb.1; omega)]
  exact List.ext_getElem? fun j => key (l.length - j) j (Nat.le_refl _)

theorem stF_mono {E : Ed} (_ha : 0 ≤ E.a) (_hd : 0 ≤ E.d) (hi : 0 ≤ E.i) {x y : Int} (h : x ≤ y) : stF x E ≤ stF y E := by
  unfold stF
  split <;> split <;> first | omega | (split <;> first | omega | (split <;> omega))
theorem en_le_st {E : Ed} (_ha : 0 ≤ E.a) (hd : 0 ≤ E.d) (hi : 0 ≤ E.i) (x : Int) : enF x E ≤ stF x E := by
  unfold stF enF
  split <;> split <;> first | omega | (split <;> first | omega | (split <;> omega))
theorem stF_nonneg {E : Ed} (ha : 0 ≤ E.a) (hi : 0 ≤ E.i) (_hd : 0 ≤ E.d) {x : Int} (h : 0 ≤ x) : 0 ≤ stF x E := by
  unfold stF
  split <;> first | omega | (split <;> omega)

theorem liesB_mem {l : List Nd} {hi : Int} (hb : ∀ q ∈ l, q.lo ≤ q.hi) : ∀ (ks : List Int) (a : Int), liesB l hi a ks = true → a ≤ hi ∧ ∀ k ∈ ks, ∃ q, l[k.toNat]? = some q ∧ a ≤ q.lo ∧ q.hi ≤ hi
  | [], a, h => ⟨by unfold liesB at h; exact of_decide_eq_true h, fun k hk => (by cases hk)⟩
  | k :: ks, a, h => by
    unfold liesB at h
    cases hq : l[k.toNat]? with
    | none => rw [hq] at h; cases h
    | some q =>
      rw [hq] at h
      simp only [Bool.and_eq_true, decide_eq_true_eq] at h
      obtain ⟨h1, h2⟩ := liesB_mem hb ks q.hi h.2
      have hqb := hb q (List.mem_of_getElem? hq)
      refine ⟨by omega, fun k' hk' => ?_⟩
      rcases List.mem_cons.1 hk' with rfl | hk'
      · exact ⟨q, hq, h.1, h1⟩
      · obtain ⟨q', a1, a2, a3⟩ := h2 k' hk'
        exact ⟨q', a1, by omega, a3⟩
/-- kids lie one behind the other behind an edit, too -/
theorem lies_edited {E : Ed} (ha : 0 ≤ E.a) (hd : 0 ≤ E.d) (hi0 : 0 ≤ E.i) {l out : List Nd} {hi hi' : Int} : ∀ (ks : List Int) (a a' : Int), a' ≤ stF a E → a' ≤ hi' →
    (∀ k ∈ ks, ∀ q, l[k.toNat]? = some q → ∃ q', out[k.toNat]? = some q' ∧ q'.lo = stF q.lo E ∧ q'.hi ≤ stF q.hi E ∧ q'.hi ≤ hi') → liesB l hi a ks = true → liesB out hi' a' ks = true
  | [], a, a', _, h, _, _ => by unfold liesB; exact decide_eq_true h
  | k :: ks, a, a', h1, h2, hc, h => by
    unfold liesB at h ⊢
    cases hq : l[k.toNat]? with
    | none => rw [hq] at h; cases h
    | some q =>
      rw [hq] at h
      simp only [Bool.and_eq_true, decide_eq_true_eq] at h
      obtain ⟨q', g1, g2, g3, g4⟩ := hc k (List.mem_cons_self ..) q hq
      rw [g1]
      simp only [Bool.and_eq_true, decide_eq_true_eq]
      refine ⟨?_, lies_edited ha hd hi0 ks q.hi q'.hi g3 g4 (fun k hk => hc k (List.mem_cons_of_mem _ hk)) h.2⟩
      have := stF_mono (E := E) ha hd hi0 h.1
      omega

theorem Trek.congr {l l' : List Nd} {ks : List Int} {n m : Nat} {ok : Bool} (h : Trek l ks n ok m) (hl : l'.length = l.length) (hc : ∀ (j : Nat) (p : Nd), l[j]? = some p → ∃ q, l'[j]? = some q ∧ q.kids = p.kids) : Trek l' ks n ok m := by
  induction h with
  | nil n => exact .nil n
  | bad k ks n hb => exact .bad k ks n (by rw [hl]; exact hb)
  | sub p ks n m hp h1 ih =>
    obtain ⟨q, hq, hk⟩ := hc n p hp
    exact .sub q ks n m hq (by rw [hk]; exact ih)
  | cons p ks n m ok e hp h1 h2 ih1 ih2 =>
    obtain ⟨q, hq, hk⟩ := hc n p hp
    exact .cons q ks n m ok e hq (by rw [hk]; exact ih1) ih2

theorem Tree.ord {l : List Nd} (T : Tree l) : ∀ q ∈ l, q.lo ≤ q.hi := by
  intro q hq
  obtain ⟨j, hj, rfl⟩ := List.getElem_of_mem hq
  have := (T.bare j _ (List.getElem?_eq_getElem hj)).1
  unfold Bare at this
  omega
section
variable {E : Ed} {l out : List Nd}
/-- where an inner part lies behind an edit -/
theorem edited_key (T : Tree l) (ha : 0 ≤ E.a) (hd : 0 ≤ E.d) (hi : 0 ≤ E.i) (h : EditedR E l out) : ∀ (n j : Nat), l.length - j ≤ n → ∀ p q, l[j]? = some p → out[j]? = some q → p.kind ≠ 1 → q.lo = stF p.lo E ∧ q.hi ≤ stF p.hi E := by
  intro n
  induction n with
  | zero => intro j hj p q hp; have := lt_of_get hp; omega
  | succ n ih =>
    intro j hj p q hp hq hk
    have e := h.2 j p hp
    rw [hq] at e
    injection e with e
    subst e
    have hlo : loE E p = stF p.lo E := by unfold loE; rw [if_neg hk]
    refine ⟨hlo, ?_⟩
    show hiE E _ p ≤ _
    unfold hiE
    rw [if_neg hk, hlo]
    have hb := (T.bare j p hp).1
    have h1 : stF p.lo E ≤ stF p.hi E := stF_mono ha hd hi (by unfold Bare at hb; omega)
    have h2 := en_le_st ha hd hi p.hi
    have h0 : 0 ≤ stF p.hi E := stF_nonneg ha hi hd (by unfold Bare at hb; omega)
    have h3 : maxTo out p.kids ≤ stF p.hi E := by
      refine maxTo_le out h0 fun k hk' => ?_
      obtain ⟨c, rfl, c1, c2⟩ := T.kid_behind hp k hk'
      obtain ⟨y, hy, y1, y2⟩ := (liesB_mem T.ord p.kids p.lo (T.lies p (List.mem_of_getElem? hp))).2 _ hk'
      rw [Int.toNat_natCast] at hy
      have hk2 := (T.bare c y hy).2 (by omega)
      have hz := h.2 c y hy
      have := (ih c (by omega) y _ hy hz hk2).2
      simp only [hiAt, Int.toNat_natCast]
      rw [hz]
      have := stF_mono (E := E) ha hd hi y2
      simp only [Option.map_some, Option.getD_some]
      omega
    omega
theorem edited_tree (T : Tree l) (ha : 0 ≤ E.a) (hd : 0 ≤ E.d) (hi : 0 ≤ E.i) (h : EditedR E l out) : Tree out := by
  have hget : ∀ (j : Nat) (q : Nd), out[j]? = some q → ∃ p, l[j]? = some p ∧ q = editedF E (maxTo out p.kids) p := by
    intro j q hq
    have hj := lt_of_get hq
    rw [h.1] at hj
    have e := h.2 j _ (List.getElem?_eq_getElem hj)
    rw [hq] at e
    injection e with e
    exact ⟨_, List.getElem?_eq_getElem hj, e⟩
  refine ⟨?_, ?_, ?_⟩
  · intro j q hq
    obtain ⟨p, hp, rfl⟩ := hget j q hq
    obtain ⟨b, r⟩ := T.bare j p hp
    refine ⟨?_, r⟩
    have hto := maxTo_nonneg out p.kids
    have hlo : 0 ≤ loE E p := by
      unfold loE
      split
      · omega
      · exact stF_nonneg ha hi hd (by unfold Bare at b; omega)
    have hlh : loE E p ≤ hiE E (maxTo out p.kids) p := by
      unfold hiE
      split
      · rename_i hk; unfold loE; rw [if_pos hk]; omega
      · omega
    have hlk : loE E p < lookE E p := by
      unfold lookE
      split
      · rename_i hk; unfold loE; rw [if_pos hk]; omega
      · split <;> omega
    obtain ⟨b1, b2, b3, b4, b5, b6, b7, b8, b9⟩ := b
    refine ⟨b1, b2, hlo, hlh, hlk, fun _ => ?_, fun ht => ?_, fun hk => ?_, b9⟩
    · show loE E p ≤ innE E _ p ∧ innE E _ p ≤ hiE E _ p
      unfold innE
      split <;> omega
    · show innE E _ p = loE E p
      unfold innE
      rw [if_pos (b7 ht)]
    · show loE E p = hiE E _ p
      have hk' : p.kind = 4 := hk
      have h9 : p.kids.length = 0 := b9 (show LeafK p.kind by unfold LeafK; omega)
      have h90 : p.kids = [] := List.eq_nil_of_length_eq_zero h9
      have e8 := b8 hk'
      unfold hiE
      rw [if_neg (by omega), h90]
      have : maxTo out [] = 0 := rfl
      rw [this]
      have h2 := en_le_st (E := E) ha hd hi p.hi
      have hl : loE E p = stF p.hi E := by unfold loE; rw [if_neg (by omega), e8]
      omega
  · rw [h.1]
    exact T.trek.congr h.1 fun j p hp => ⟨_, h.2 j p hp, rfl⟩
  · intro q hq
    obtain ⟨j, hj, hjq⟩ := List.getElem_of_mem hq
    obtain ⟨p, hp, rfl⟩ := hget j q (by rw [List.getElem?_eq_getElem hj, hjq])
    obtain ⟨b, r⟩ := T.bare j p hp
    have hl := T.lies p (List.mem_of_getElem? hp)
    refine lies_edited (E := E) (l := l) ha hd hi p.kids p.lo _ ?_ ?_ ?_ hl
    · show loE E p ≤ _
      unfold loE
      split
      · exact stF_nonneg ha hi hd (by unfold Bare at b; omega)
      · omega
    · show loE E p ≤ hiE E _ p
      unfold hiE
      split
      · rename_i hk; unfold loE; rw [if_pos hk]; omega
      · omega
    · intro k hk y hy
      obtain ⟨c, rfl, c1, c2⟩ := T.kid_behind hp k hk
      rw [Int.toNat_natCast] at hy ⊢
      have hz := h.2 c y hy
      obtain ⟨z1, z2⟩ := edited_key T ha hd hi h _ c (Nat.le_refl _) y _ hy hz ((T.bare c y hy).2 (by omega))
      refine ⟨_, hz, z1, z2, ?_⟩
      have := maxTo_ge out hk
      simp only [hiAt, Int.toNat_natCast] at this
      rw [hz] at this
      simp only [Option.map_some, Option.getD_some] at this
      refine Int.le_trans this ?_
      show maxTo out p.kids ≤ hiE E _ p
      unfold hiE
      split <;> omega
/-- how far the root goes -/
theorem edited_root (T : Tree l) (ha : 0 ≤ E.a) (hd : 0 ≤ E.d) (hi : 0 ≤ E.i) (h : EditedR E l out) {p q : Nd} (hp : l[0]? = some p) (hq : out[0]? = some q) (hk : p.kind = 1) (hin : E.a + E.d ≤ p.hi) : q.lo = 0 ∧ q.hi = p.hi - E.d + E.i := by
  have e := h.2 0 p hp
  rw [hq] at e
  injection e with e
  subst e
  refine ⟨by show loE E p = 0; unfold loE; rw [if_pos hk], ?_⟩
  show hiE E _ p = _
  unfold hiE
  rw [if_pos hk]
  have hs : stF p.hi E = p.hi - E.d + E.i := by
    unfold stF
    rw [if_neg (by omega), if_pos (by omega)]
  have : maxTo out p.kids ≤ p.hi - E.d + E.i := by
    refine maxTo_le out (by omega) fun k hk' => ?_
    obtain ⟨c, rfl, c1, c2⟩ := T.kid_behind hp k hk'
    obtain ⟨y, hy, y1, y2⟩ := (liesB_mem T.ord p.kids p.lo (T.lies p (List.mem_of_getElem? hp))).2 _ hk'
    rw [Int.toNat_natCast] at hy
    have hz := h.2 c y hy
    have h2 := (edited_key T ha hd hi h _ c (Nat.le_refl _) y _ hy hz ((T.bare c y hy).2 (by omega))).2
    simp only [hiAt, Int.toNat_natCast]
    rw [hz]
    have := stF_mono (E := E) ha hd hi y2
    simp only [Option.map_some, Option.getD_some]
    omega
  omega
/-- what is not met keeps its shape -/
theorem edited_shape (T : Tree l) (ha : 0 ≤ E.a) (hd : 0 ≤ E.d) (hi : 0 ≤ E.i) (h : EditedR E l out) {j : Nat} {p q : Nd} (hp : l[j]? = some p) (hq : out[j]? = some q) (hk : p.kind ≠ 1) (hm : ¬ Meet (ownLo p) p.look E)
    (hl : p.hi < p.look) (hx : p.hi ≠ E.a ∨ p.lo = p.hi) : q.hi - p.hi = q.lo - p.lo := by
  have e := h.2 j p hp
  rw [hq] at e
  injection e with e
  subst e
  show hiE E _ p - p.hi = loE E p - p.lo
  have ho : ownLo p = p.lo := by unfold ownLo; rw [if_neg hk]
  rw [ho] at hm
  have hlo : loE E p = stF p.lo E := by unfold loE; rw [if_neg hk]
  have hb := (T.bare j p hp).1
  have h1 : 0 ≤ p.lo ∧ p.lo ≤ p.hi := by unfold Bare at hb; omega
  have hto : maxTo out p.kids ≤ stF p.hi E := by
    refine maxTo_le out (stF_nonneg ha hi hd (by omega)) fun k hk' => ?_
    obtain ⟨c, rfl, c1, c2⟩ := T.kid_behind hp k hk'
    obtain ⟨y, hy, y1, y2⟩ := (liesB_mem T.ord p.kids p.lo (T.lies p (List.mem_of_getElem? hp))).2 _ hk'
    rw [Int.toNat_natCast] at hy
    have hz := h.2 c y hy
    have h2 := (edited_key T ha hd hi h _ c (Nat.le_refl _) y _ hy hz ((T.bare c y hy).2 (by omega))).2
    simp only [hiAt, Int.toNat_natCast]
    rw [hz]
    have := stF_mono (E := E) ha hd hi y2
    simp only [Option.map_some, Option.getD_some]
    omega
  have h0 := maxTo_nonneg out p.kids
  unfold hiE
  rw [if_neg hk, hlo]
  unfold Meet at hm
  generalize maxTo out p.kids = to at *
  unfold stF enF at *
  split <;> split <;> (try split) <;> (try split) <;> (split at hto) <;> (try split at hto) <;> omega
end
end Go.Proofs.Ytaffaeompdlecaa

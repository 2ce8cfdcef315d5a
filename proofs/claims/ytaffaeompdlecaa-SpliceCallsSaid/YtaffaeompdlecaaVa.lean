/- Bits of a tree that was spliced with its own part: plain facts. -/
import Derived.Test.YtaffaeompdlecaaV4
import Derived.Test.YtaffaeompdlecaaV7
import Derived.Test.YtaffaeompdlecaaG1
namespace Go.Proofs.Ytaffaeompdlecaa
open Go.RowKit

/-- a tree's shape is not its bits -/
theorem Tree.of_unmet {l l' : List Nd} (T : Tree l) (h : l'.map Nd.unmet = l.map Nd.unmet) : Tree l' := by
  have hlen : l'.length = l.length := by have := congrArg List.length h; simpa using this
  have key : ∀ (a b : List Nd), a.map Nd.unmet = b.map Nd.unmet → ∀ (i : Nat) (q : Nd), a[i]? = some q → ∃ p, b[i]? = some p ∧ q.unmet = p.unmet := fun a b hab i q hq => by
    have := congrArg (fun x : List Nd => x[i]?) hab
    simp only [List.getElem?_map, hq, Option.map_some] at this
    cases hp : b[i]? with
    | none => rw [hp] at this; cases this
    | some p => rw [hp] at this; exact ⟨p, rfl, Option.some.inj this⟩
  refine ⟨fun i q hq => ?_, ?_, fun q hq => ?_⟩
  · obtain ⟨p, hp, e⟩ := key _ _ h i q hq
    have b := T.bare i p hp
    have hb : Bare q ↔ Bare p := by show Bare q.unmet ↔ Bare p.unmet; rw [e]
    have hk : q.kind = p.kind := (Nd.mk.inj e).2.1
    exact ⟨hb.2 b.1, fun h0 => by rw [hk]; exact b.2 h0⟩
  · rw [hlen]
    exact T.trek.congr hlen fun j p hp => by
      obtain ⟨q, hq, e⟩ := key _ _ h.symm j p hp
      exact ⟨q, hq, (Nd.mk.inj e).2.2.2.2.2.2.1.symm⟩
  · obtain ⟨i, hi⟩ := List.getElem?_of_mem hq
    obtain ⟨p, hp, e⟩ := key _ _ h i q hi
    have e1 : q.hi = p.hi := (Nd.mk.inj e).2.2.2.2.1
    have e2 : q.lo = p.lo := (Nd.mk.inj e).2.2.1
    have e3 : q.kids = p.kids := (Nd.mk.inj e).2.2.2.2.2.2.1
    rw [← liesB_unmet, h, liesB_unmet, e1, e2, e3]
    exact T.lies p (List.mem_of_getElem? hp)
theorem unmet_moved (d : Int) (l : List Nd) : (movedF d l).map Nd.unmet = movedF d (l.map Nd.unmet) := by
  unfold movedF
  rw [List.map_map, List.map_map]
  rfl
theorem unmet_sub (l : List Nd) (i m : Nat) : (subF l i m).map Nd.unmet = subF (l.map Nd.unmet) i m := by
  unfold subF
  rw [unmet_moved, List.map_take, List.map_drop]
theorem unmet_put (l s : List Nd) (i m : Nat) : (putF l i m s).map Nd.unmet = putF (l.map Nd.unmet) i m (s.map Nd.unmet) := by
  unfold putF
  rw [List.map_append, List.map_append, unmet_moved, unmet_moved, List.map_drop, List.length_map, List.map_map, ← List.map_take, List.map_map]
  rfl
theorem unmet_orAt (l : List Nd) (u b : Int) : (orAt l u b).map Nd.unmet = l.map Nd.unmet := by
  unfold orAt
  split
  · apply List.ext_getElem?
    intro j
    rw [List.getElem?_map, List.getElem?_map, List.getElem?_modify]
    cases l[j]? with
    | none => rfl
    | some p =>
      simp only [Option.map_some]
      split <;> rfl
  · rfl
theorem unmet_unmet (l : List Nd) : (l.map Nd.unmet).map Nd.unmet = l.map Nd.unmet := by
  rw [List.map_map]
  rfl
theorem Part.unmet {l : List Nd} {i m : Nat} (h : Part l i m) : Part (l.map Nd.unmet) i m :=
  ⟨by rw [List.length_map]; exact h.lt, h.trek.congr (List.length_map ..) fun j p hp => ⟨p.unmet, by rw [List.getElem?_map, hp]; rfl, rfl⟩, by rw [List.length_map]; exact h.le⟩
/-- a part in its own place, bits aside: the shape is as it was -/
theorem splice_shape {l : List Nd} {k m : Nat} (h : Part l k m) (u b : Int) : (orAt (putF l k m ((subF l k m).map Nd.unmet)) u b).map Nd.unmet = l.map Nd.unmet := by
  rw [unmet_orAt, unmet_put, unmet_unmet, unmet_sub, put_sub h.unmet]
/-- such a part fits -/
theorem fits_own {l : List Nd} (T : Tree l) {k m : Nat} (h : Part l k m) : FitsT l ((subF l k m).map Nd.unmet) (k : Int) := by
  obtain ⟨p, hp⟩ : ∃ p, l[k]? = some p := ⟨_, List.getElem?_eq_getElem h.lt⟩
  refine ⟨T, (T.sub h).unmet, k, p, (p.by (· + -(k : Int))).unmet, rfl, hp, ?_, rfl, rfl, rfl, rfl⟩
  have := h.lt_end
  rw [List.getElem?_map, get_sub (by omega), Nat.add_zero, hp]
  rfl

theorem tb_xor {a b : Int} (ha : U64 a) (hb : U64 b) (k : Nat) : tb (bits .xor .u64 a b) k = (tb a k ^^ tb b k) := by
  obtain ⟨h1, h2⟩ := ha
  obtain ⟨h3, h4⟩ := hb
  rw [u64_xor a b h1 (by omega) h3 (by omega)]
  simp [tb]
theorem tb_max {k : Nat} (hk : k < 64) : tb IntKind.u64.max k = true := by
  show (18446744073709551615 : Int).toNat.testBit k = true
  rw [show (18446744073709551615 : Int).toNat = 2 ^ 64 - 1 by decide, Nat.testBit_two_pow_sub_one]
  simpa using hk
theorem u64_max : U64 IntKind.u64.max := ⟨by decide, by decide⟩
def MetsU (l : List Nd) : Prop := ∀ p ∈ l, U64 p.met
theorem tb_bitsF {l : List Nd} (h : MetsU l) (k : Nat) : tb (bitsF l) k = l.any fun p => tb p.met k := by
  unfold bitsF
  have key : ∀ (l : List Nd) (x : Int), MetsU l → U64 x → tb (l.foldl (fun a p => bits .or .u64 a p.met) x) k = (tb x k || l.any fun p => tb p.met k) := by
    intro l
    induction l with
    | nil => intro x _ _; simp
    | cons p l ih =>
      intro x hl hx
      rw [List.foldl_cons, ih _ (fun q hq => hl q (List.mem_cons_of_mem _ hq)) (bits_u64 ..), tb_or hx (hl p List.mem_cons_self), List.any_cons, Bool.or_assoc]
  rw [key l 0 h ⟨by omega, by omega⟩, tb_zero, Bool.false_or]
def clr (a n : Int) : Int := bits .andNot .u64 a (bitN n)
theorem leftL_fold : ∀ (js : List Dty) (fs : List Bool) (x : Int), leftL js fs x = (doneL js fs).foldl clr x
  | [], _, x => by simp [leftL, doneL]
  | d :: js, [], x => by simp [leftL, doneL]
  | d :: js, f :: fs, x => by
    cases f
    · simp only [leftL, doneL]; exact leftL_fold js fs x
    · simp only [leftL, doneL, if_true, List.foldl_cons]; exact leftL_fold js fs _
theorem clr_u64 : ∀ (ns : List Int) {x : Int}, U64 x → U64 (ns.foldl clr x)
  | [], _, h => h
  | _ :: ns, _, _ => clr_u64 ns (bits_u64 ..)
theorem tb_clr (k : Nat) : ∀ (ns : List Int) {x : Int}, U64 x → (∀ n ∈ ns, SlotN n) → tb (ns.foldl clr x) k = (tb x k && ns.all fun n => !decide (n.toNat = k))
  | [], x, _, _ => by simp
  | n :: ns, x, hx, hn => by
    rw [List.foldl_cons, tb_clr k ns (x := clr x n) (bits_u64 ..) (fun m hm => hn m (List.mem_cons_of_mem _ hm))]
    show (tb (bits .andNot .u64 x (bitN n)) k && _) = _
    rw [tb_andNot hx (bitN_u64 n), tb_bitN (hn n List.mem_cons_self), List.all_cons, Bool.and_assoc]
theorem doneL_mem : ∀ (js : List Dty) (fs : List Bool) (n : Int), n ∈ doneL js fs → ∃ (i : Nat) (d : Dty), js[i]? = some d ∧ fs[i]? = some true ∧ n = d.slot
  | [], fs, n, h => by simp [doneL] at h
  | d :: js, [], n, h => by simp [doneL] at h
  | d :: js, f :: fs, n, h => by
    have next : n ∈ doneL js fs → ∃ (i : Nat) (d' : Dty), (d :: js)[i]? = some d' ∧ (f :: fs)[i]? = some true ∧ n = d'.slot := fun h => by
      obtain ⟨i, d', h1, h2, h3⟩ := doneL_mem js fs n h
      exact ⟨i + 1, d', by simpa using h1, by simpa using h2, h3⟩
    cases f
    · simp only [doneL] at h; exact next h
    · simp only [doneL, if_true, List.mem_cons] at h
      rcases h with rfl | h
      · exact ⟨0, d, rfl, rfl, rfl⟩
      · exact next h
theorem FlagsOk.slots {l : List Nd} {i : Int} {js : List Dty} {fs : List Bool} (h : FlagsOk l i js fs) : ∀ n ∈ doneL js fs, SlotN n := fun n hn => by
  obtain ⟨k, d, h1, h2, rfl⟩ := doneL_mem js fs n hn
  exact ((h.2 k d true h1 h2).1 rfl).2.1
theorem any_modify {α : Type} {l : List α} (f : α → Bool) (g : α → α) (c : Bool) (hg : ∀ p, p ∈ l → f (g p) = (f p || c)) : ∀ (j : Nat), j < l.length → (l.modify j g).any f = (l.any f || c) := by
  induction l with
  | nil => intro j h; simp at h
  | cons p l ih =>
    intro j h
    cases j with
    | zero =>
      show ((g p) :: l).any f = _
      rw [List.any_cons, List.any_cons, hg p List.mem_cons_self, Bool.or_assoc, Bool.or_comm c, ← Bool.or_assoc]
    | succ j =>
      show (p :: l.modify j g).any f = _
      rw [List.any_cons, List.any_cons, ih (fun q hq => hg q (List.mem_cons_of_mem _ hq)) j (by simpa using h), Bool.or_assoc]
section
variable {l s : List Nd} {k m : Nat}
theorem MetsU.moved {l : List Nd} (h : MetsU l) (d : Int) : MetsU (movedF d l) := fun p hp => by
  obtain ⟨q, hq, rfl⟩ := List.mem_map.1 hp
  exact h q hq
theorem MetsU.put (hl : MetsU l) (hs : MetsU s) : MetsU (putF l k m s) := fun p hp => by
  unfold putF at hp
  rcases List.mem_append.1 hp with hp | hp
  · obtain ⟨q, hq, rfl⟩ := List.mem_map.1 hp
    exact hl q (List.mem_of_mem_take hq)
  · rcases List.mem_append.1 hp with hp | hp
    · exact hs.moved _ p hp
    · obtain ⟨q, hq, rfl⟩ := List.mem_map.1 hp
      exact hl q (List.mem_of_mem_drop hq)
theorem any_put (n : Nat) (hs : ∀ p ∈ s, p.met = 0) : (putF l k m s).any (fun p => tb p.met n) = ((l.take k).any (fun p => tb p.met n) || (l.drop m).any (fun p => tb p.met n)) := by
  unfold putF movedF
  rw [List.any_append, List.any_append, List.any_map, List.any_map, List.any_map]
  have h0 : s.any ((fun p => tb p.met n) ∘ Nd.by (· + (k : Int))) = false := by
    rw [List.any_eq_false]
    intro p hp
    show ¬ tb p.met n = true
    rw [hs p hp, tb_zero]
    simp
  rw [h0, Bool.false_or]
  rfl
theorem any_split (n : Nat) (h1 : k ≤ m) : l.any (fun p => tb p.met n) = ((l.take k).any (fun p => tb p.met n) || (((l.drop k).take (m - k)).any (fun p => tb p.met n) || (l.drop m).any (fun p => tb p.met n))) := by
  have e : l = l.take k ++ ((l.drop k).take (m - k) ++ l.drop m) := by
    have e2 : l.drop m = (l.drop k).drop (m - k) := by rw [List.drop_drop]; congr 1; omega
    rw [e2, List.take_append_drop, List.take_append_drop]
  conv => lhs; rw [e]
  rw [List.any_append, List.any_append]
end
/-- a tree without bits -/
theorem bitsF_none {l : List Nd} (h : ∀ p ∈ l, p.met = 0) : bitsF l = 0 := by
  have hu : MetsU l := fun p hp => by rw [h p hp]; exact ⟨by omega, by omega⟩
  refine tb_ext (bitsF_u64 l) ⟨by omega, by omega⟩ fun k _ => ?_
  rw [tb_bitsF hu, tb_zero, List.any_eq_false]
  intro p hp
  rw [h p hp, tb_zero]
  simp
theorem unmet_none (l : List Nd) : ∀ p ∈ l.map Nd.unmet, p.met = 0 := fun p hp => by
  obtain ⟨q, _, rfl⟩ := List.mem_map.1 hp
  rfl
/-- spliced by the first part: no bits are left -/
theorem bits_first {l s : List Nd} {b : Int} (hs : ∀ p ∈ s, p.met = 0) : bitsF (orAt (putF l 0 l.length s) (-1) b) = 0 := by
  refine bitsF_none fun p hp => ?_
  unfold orAt at hp
  rw [if_neg (by omega)] at hp
  unfold putF movedF at hp
  simp only [List.take_zero, List.map_nil, List.nil_append, List.drop_length, List.append_nil, List.mem_map] at hp
  obtain ⟨q, hq, rfl⟩ := hp
  exact hs q hq
/-- what is left, spliced by another part -/
theorem bits_other {l s : List Nd} {k m j : Nat} {ns : List Int} (hl : MetsU l) (hs : ∀ p ∈ s, p.met = 0) (hk : k ≤ m) (hkl : k ≤ l.length) (hj : j < k) (hn : ∀ n ∈ ns, SlotN n) (n : Nat) :
    tb (bitsF (orAt (putF l k m s) (j : Int) (ns.foldl clr (bitsF ((l.drop k).take (m - k)))))) n = ((l.take k).any (fun p => tb p.met n) || ((l.drop m).any (fun p => tb p.met n) || (((l.drop k).take (m - k)).any (fun p => tb p.met n) && ns.all fun x => !decide (x.toNat = n)))) := by
  have hsu : MetsU s := fun p hp => by rw [hs p hp]; exact ⟨by omega, by omega⟩
  have hpu : MetsU (putF l k m s) := hl.put hsu
  have hmu : MetsU ((l.drop k).take (m - k)) := fun p hp => hl p (List.mem_of_mem_drop (List.mem_of_mem_take hp))
  have hb : U64 (bitsF ((l.drop k).take (m - k))) := bitsF_u64 _
  have hou : MetsU (orAt (putF l k m s) (j : Int) (ns.foldl clr (bitsF ((l.drop k).take (m - k))))) := fun p hp => by
    unfold orAt at hp
    rw [if_pos (by omega), Int.toNat_natCast] at hp
    obtain ⟨i, hi⟩ := List.getElem?_of_mem hp
    rw [List.getElem?_modify] at hi
    cases hq : (putF l k m s)[i]? with
    | none => rw [hq] at hi; cases hi
    | some q =>
      rw [hq] at hi
      replace hi := Option.some.inj hi
      split at hi
      · subst hi; exact bits_u64 .or q.met _
      · subst hi; exact hpu q (List.mem_of_getElem? hq)
  rw [tb_bitsF hou]
  unfold orAt
  rw [if_pos (by omega), Int.toNat_natCast, any_modify (l := putF l k m s) (fun p => tb p.met n) _ (tb (ns.foldl clr (bitsF ((l.drop k).take (m - k)))) n)
    (fun p hp => tb_or (hpu p hp) (clr_u64 ns hb) n) j (by unfold putF; rw [List.length_append, List.length_map, List.length_take]; omega), any_put n hs, tb_clr n ns hb hn, tb_bitsF hmu, Bool.or_assoc]
/-- the law of SpliceBits, elsewhere than at the first part -/
theorem bits_law {l s : List Nd} {k m j : Nat} {ns : List Int} (hl : MetsU l) (hs : ∀ p ∈ s, p.met = 0) (hk : k ≤ m) (hkl : k ≤ l.length) (hj : j < k) (hn : ∀ n ∈ ns, SlotN n) {O L BL : Int}
    (hO : bitsF (orAt (putF l k m s) (j : Int) (ns.foldl clr (bitsF ((l.drop k).take (m - k))))) = O) (hBL : bitsF l = BL) (hL : L = ns.foldl clr BL) :
    bits .or .u64 O (bits .xor .u64 IntKind.u64.max L) = 18446744073709551615 ∧ bits .andNot .u64 O BL = 0 := by
  have uO : U64 O := hO ▸ bitsF_u64 _
  have uB : U64 BL := hBL ▸ bitsF_u64 _
  have uL : U64 L := hL ▸ clr_u64 ns uB
  have tO : ∀ n, tb O n = _ := fun n => hO ▸ bits_other hl hs hk hkl hj hn n
  have tB : ∀ n, tb BL n = _ := fun n => hBL ▸ (tb_bitsF hl n).trans (any_split n hk)
  have tL : ∀ n, tb L n = _ := fun n => hL ▸ tb_clr n ns uB hn
  refine ⟨tb_ext (bits_u64 ..) u64_max fun n h => ?_, tb_ext (bits_u64 ..) ⟨by omega, by omega⟩ fun n _ => ?_⟩
  · rw [tb_or uO (bits_u64 ..), tb_xor u64_max uL, tb_max h, show tb 18446744073709551615 n = true from tb_max h, tO n, tL n, tB n]
    cases (l.take k).any (fun p => tb p.met n) <;> cases (l.drop m).any (fun p => tb p.met n) <;> cases ((l.drop k).take (m - k)).any (fun p => tb p.met n) <;> cases ns.all (fun x => !decide (x.toNat = n)) <;> rfl
  · rw [tb_andNot uO uB, tO n, tB n, tb_zero]
    cases (l.take k).any (fun p => tb p.met n) <;> cases (l.drop m).any (fun p => tb p.met n) <;> cases ((l.drop k).take (m - k)).any (fun p => tb p.met n) <;> cases ns.all (fun x => !decide (x.toNat = n)) <;> rfl
end Go.Proofs.Ytaffaeompdlecaa

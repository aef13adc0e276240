/- PLAIN LAWS of refs.Garbage: what its two loops keep; slices.Sort of a row of strings. Conditions: as they stand. -/
import Derived.Test.YtfdfljcieeccbaaOf
namespace Go.Proofs.Ytfdfljcieeccbaa
open Go.RowKit Go.Sort

structure Good (l : List Card) : Prop where
  len : l.length ≤ 60
  uids : (uids l).Nodup
  name : ∀ c ∈ l, nameE c.uid = 0
  four : ∀ c ∈ l, c.owners.length ≤ 4
  own : ∀ c ∈ l, ownE c.owners = 0
  self : ∀ c ∈ l, c.uid ∉ c.owners
theorem firstE_zero {es : List Int} : firstE es = 0 ↔ ∀ i, i < es.length → es.getD i 0 = 0 := by
  constructor
  · intro h i hi
    induction i using Nat.strongRecOn with
    | _ i ih =>
      by_cases h0 : es.getD i 0 = 0
      · exact h0
      · have := firstE_hit i hi (fun j hj => ih j hj (by omega)) h0
        rw [h] at this; exact this.symm
  · exact firstE_none
theorem cardE_zero (b : Bool) (c : Card) : cardE b c = 0 ↔ nameE c.uid = 0 ∧ b = false ∧ c.owners.length ≤ 4 ∧ ownE c.owners = 0 ∧ c.uid ∉ c.owners := by
  unfold cardE
  by_cases h1 : nameE c.uid = 0
  · rw [if_neg (by simpa using h1)]
    cases b
    · rw [if_neg (by simp)]
      by_cases h4 : 4 < c.owners.length
      · rw [if_pos h4]; simp; omega
      · rw [if_neg h4]
        by_cases h5 : ownE c.owners = 0
        · rw [if_neg (by simpa using h5)]
          cases h6 : inB c.uid c.owners
          · rw [inB_false] at h6; simp [h1, h5, h6]; omega
          · rw [inB_iff] at h6; simp [h6]
        · rw [if_pos (by simpa using h5)]; simp [h5]
    · simp
  · rw [if_pos (by simpa using h1)]; simp [h1]
theorem good_iff (l : List Card) : checkE l = 0 ↔ Good l := by
  unfold checkE
  by_cases h60 : 60 < l.length
  · rw [if_pos h60]
    exact ⟨fun h => absurd h (by decide), fun h => by have := h.len; omega⟩
  · rw [if_neg h60, firstE_zero, cardEs_length]
    have hu : (uids l).length = l.length := by simp [uids]
    constructor
    · intro h
      have h' : ∀ i, i < l.length → nameE (gc l i).uid = 0 ∧ inB (gc l i).uid ((uids l).take i) = false ∧ (gc l i).owners.length ≤ 4 ∧ ownE (gc l i).owners = 0 ∧ (gc l i).uid ∉ (gc l i).owners := fun i hi => by
        have := h i hi
        rw [cardEs_get l i hi] at this
        exact (cardE_zero _ _).1 this
      have hc : ∀ c ∈ l, ∃ i, i < l.length ∧ gc l i = c := fun c hc => by
        obtain ⟨i, hi, rfl⟩ := List.getElem_of_mem hc
        exact ⟨i, hi, by simp [gc, List.getD, hi]⟩
      refine ⟨by omega, ?_, fun c hm => ?_, fun c hm => ?_, fun c hm => ?_, fun c hm => ?_⟩
      · rw [List.Nodup, List.pairwise_iff_getElem]
        intro i j hi hj hij e
        have := (h' j (by omega)).2.1
        rw [inB_false] at this
        refine this ?_
        have e2 : (gc l j).uid = (uids l)[j] := by simp [uids, gc, List.getD, show j < l.length by omega]
        rw [e2, ← e]
        rw [List.mem_take_iff_getElem]
        exact ⟨i, by omega, rfl⟩
      all_goals obtain ⟨i, hi, rfl⟩ := hc c hm
      · exact (h' i hi).1
      · exact (h' i hi).2.2.1
      · exact (h' i hi).2.2.2.1
      · exact (h' i hi).2.2.2.2
    · intro h i hi
      rw [cardEs_get l i hi]
      have hm := gc_mem l i hi
      refine (cardE_zero _ _).2 ⟨h.name _ hm, (inB_false _ _).2 (not_before l h.uids i hi), h.four _ hm, h.own _ hm, h.self _ hm⟩
theorem Good.filter {l : List Card} (h : Good l) (p : Card → Bool) : Good (l.filter p) := by
  have hs : (l.filter p).Sublist l := List.filter_sublist
  exact ⟨Nat.le_trans hs.length_le h.len, (hs.map Card.uid).nodup h.uids, fun c hc => h.name c (hs.subset hc), fun c hc => h.four c (hs.subset hc), fun c hc => h.own c (hs.subset hc), fun c hc => h.self c (hs.subset hc)⟩
theorem uid_inj {l : List Card} (h : (uids l).Nodup) {c d : Card} (hc : c ∈ l) (hd : d ∈ l) (e : c.uid = d.uid) : c = d := by
  obtain ⟨i, hi, rfl⟩ := List.getElem_of_mem hc
  obtain ⟨j, hj, rfl⟩ := List.getElem_of_mem hd
  have hl : (uids l).length = l.length := by simp [uids]
  have hi' : i < (uids l).length := by omega
  have hj' : j < (uids l).length := by omega
  have e2 : (uids l)[i] = (uids l)[j] := by simpa [uids] using e
  have key : ∀ a b (ha : a < (uids l).length) (hb : b < (uids l).length), a < b → (uids l)[a] ≠ (uids l)[b] := fun a b ha hb hab => List.pairwise_iff_getElem.1 h a b ha hb hab
  rcases Nat.lt_trichotomy i j with h1 | h1 | h1
  · exact absurd e2 (key i j hi' hj' h1)
  · subst h1; rfl
  · exact absurd e2.symm (key j i hj' hi' h1)

/-- who of the owners is there, once each. -/
noncomputable def present (l : List Card) (c : Card) : List ByteArray := (distinct c.owners).filter fun o => inB o (uids l)
theorem mem_present (l : List Card) (c : Card) (o : ByteArray) : o ∈ present l c ↔ o ∈ c.owners ∧ o ∈ uids l := by
  unfold present; rw [List.mem_filter, mem_distinct, inB_iff]
theorem present_nodup (l : List Card) (c : Card) : (present l c).Nodup := (distinct_nodup _).filter _
/-- how many of them are not among P. -/
noncomputable def waitsN (l : List Card) (P : List ByteArray) (c : Card) : Nat := ((present l c).filter fun o => !inB o P).length
theorem waitsN_zero (l : List Card) (P : List ByteArray) (c : Card) : waitsN l P c = 0 ↔ ∀ o ∈ c.owners, o ∈ uids l → o ∈ P := by
  unfold waitsN
  rw [List.length_eq_zero_iff, List.filter_eq_nil_iff]
  constructor
  · intro h o h1 h2
    have := h o ((mem_present l c o).2 ⟨h1, h2⟩)
    simpa [inB_iff] using this
  · intro h o ho
    rw [mem_present] at ho
    simpa [inB_iff] using h o ho.1 ho.2
theorem waitsN_le (l : List Card) (P : List ByteArray) (c : Card) (h : c.owners.length ≤ 4) : waitsN l P c ≤ 4 := by
  unfold waitsN present
  have h1 := List.length_filter_le (fun o => !inB o P) ((distinct c.owners).filter fun o => inB o (uids l))
  have h2 := List.length_filter_le (fun o => inB o (uids l)) (distinct c.owners)
  have h3 := distinct_length c.owners
  omega
theorem filter_count (L P : List ByteArray) (x : ByteArray) (hL : L.Nodup) (hx : x ∉ P) : (L.filter fun o => !inB o P).length = (L.filter fun o => !inB o (P ++ [x])).length + (if inB x L = true then 1 else 0) := by
  induction L with
  | nil => rw [if_neg (by simp [inB_iff])]; rfl
  | cons a L ih =>
    obtain ⟨h1, h2⟩ := List.nodup_cons.1 hL
    have ih := ih h2
    by_cases e : a = x
    · subst e
      have e1 : (!inB a P) = true := by rw [(inB_false a P).2 hx]; rfl
      have e2 : (!inB a (P ++ [a])) = false := by rw [(inB_iff a _).2 (by simp)]; rfl
      rw [List.filter_cons_of_pos (p := fun o => !inB o P) e1, List.filter_cons_of_neg (p := fun o => !inB o (P ++ [a])) (by rw [e2]; simp), if_pos ((inB_iff _ _).2 (by simp)), List.length_cons]
      rw [if_neg (by rw [inB_iff]; exact h1)] at ih
      omega
    · have e3 : inB x (a :: L) = inB x L := by
        rw [Bool.eq_iff_iff, inB_iff, inB_iff, List.mem_cons]
        exact ⟨fun h => h.resolve_left (fun h => e h.symm), .inr⟩
      have e4 : inB a (P ++ [x]) = inB a P := by
        rw [Bool.eq_iff_iff, inB_iff, inB_iff, List.mem_append, List.mem_singleton]
        exact ⟨fun h => h.resolve_right e, .inl⟩
      rw [e3]
      cases hb : inB a P
      · rw [List.filter_cons_of_pos (p := fun o => !inB o P) (by rw [hb]; rfl), List.filter_cons_of_pos (p := fun o => !inB o (P ++ [x])) (by rw [e4, hb]; rfl), List.length_cons, List.length_cons]
        omega
      · rw [List.filter_cons_of_neg (p := fun o => !inB o P) (by rw [hb]; simp), List.filter_cons_of_neg (p := fun o => !inB o (P ++ [x])) (by rw [e4, hb]; simp)]
        exact ih
theorem waitsN_pop (l : List Card) (P : List ByteArray) (x : ByteArray) (c : Card) (hx : x ∉ P) (hu : x ∈ uids l) : waitsN l P c = waitsN l (P ++ [x]) c + (if inB x c.owners = true then 1 else 0) := by
  unfold waitsN
  rw [filter_count _ P x (present_nodup l c) hx]
  congr 2
  have : inB x (present l c) = inB x c.owners := by
    rw [Bool.eq_iff_iff, inB_iff, inB_iff, mem_present]
    exact ⟨fun h => h.1, fun h => ⟨h, hu⟩⟩
  rw [this]

/-- nobody owns it any more, once those of P are gone. -/
def Free (l : List Card) (P : List ByteArray) (s : ByteArray) : Prop := ∃ c ∈ l, c.uid = s ∧ c.owners ≠ [] ∧ ∀ o ∈ c.owners, o ∈ uids l → o ∈ P
structure GInv (l : List Card) (P Q : List ByteArray) : Prop where
  nodup : (P ++ Q).Nodup
  mem : ∀ s, s ∈ P ++ Q ↔ Free l P s
  ord : ∀ k, k < P.length → Free l (P.take k) (P.getD k ByteArray.empty)
theorem Free.there {l : List Card} {P : List ByteArray} {s : ByteArray} (h : Free l P s) : s ∈ uids l := by
  obtain ⟨c, hc, rfl, _⟩ := h; exact List.mem_map.2 ⟨c, hc, rfl⟩
theorem Free.mono {l : List Card} {P P' : List ByteArray} {s : ByteArray} (h : Free l P s) (hs : ∀ x ∈ P, x ∈ P') : Free l P' s := by
  obtain ⟨c, hc, e, h1, h2⟩ := h; exact ⟨c, hc, e, h1, fun o ho hu => hs o (h2 o ho hu)⟩
theorem nodup_sub_length {A B : List ByteArray} (hA : A.Nodup) (hs : ∀ x ∈ A, x ∈ B) : A.length ≤ B.length := by
  induction A generalizing B with
  | nil => simp
  | cons a A ih =>
    obtain ⟨h1, h2⟩ := List.nodup_cons.1 hA
    obtain ⟨s, t, rfl⟩ := List.append_of_mem (hs a (by simp))
    have := ih (B := s ++ t) h2 (fun x hx => by
      have := hs x (by simp [hx])
      simp at this
      rcases this with h | h | h
      · simp [h]
      · subst h; exact absurd hx h1
      · simp [h])
    simp at this ⊢
    omega
theorem GInv.length {l : List Card} {P Q : List ByteArray} (h : GInv l P Q) (hl : l.length ≤ 60) : P.length + Q.length ≤ 60 := by
  have := nodup_sub_length (B := uids l) h.nodup (fun x hx => ((h.mem x).1 hx).there)
  rw [List.length_append] at this
  simp [uids] at this
  omega
theorem ownedBy_nodup {l : List Card} (h : (uids l).Nodup) (s : ByteArray) : (ownedBy l s).Nodup := by
  unfold ownedBy
  exact (List.filter_sublist.map Card.uid).nodup h
/-- who of us is free now. -/
noncomputable def freed (l : List Card) (P us : List ByteArray) : List ByteArray := us.filter fun s => @decide (Free l P s) (Classical.propDecidable _)
theorem mem_freed (l : List Card) (P us : List ByteArray) (s : ByteArray) : s ∈ freed l P us ↔ s ∈ us ∧ Free l P s := by
  unfold freed; rw [List.mem_filter, @decide_eq_true_iff _ (Classical.propDecidable _)]
theorem GInv.pop {l : List Card} {P Q : List ByteArray} {u : ByteArray} (h : GInv l P (u :: Q)) (hnd : (uids l).Nodup) : GInv l (P ++ [u]) (Q ++ freed l (P ++ [u]) (ownedBy l u)) := by
  have hn := h.nodup
  have hfu : Free l P u := (h.mem u).1 (by simp)
  have huP : u ∉ P := fun hm => by
    rw [List.nodup_append] at hn
    exact hn.2.2 u hm u (by simp) rfl
  have hnew : ∀ s ∈ freed l (P ++ [u]) (ownedBy l u), s ∉ P ++ (u :: Q) := fun s hs hm => by
    rw [mem_freed, mem_ownedBy] at hs
    obtain ⟨⟨c, hc, huo, rfl⟩, _⟩ := hs
    obtain ⟨d, hd, e, _, hall⟩ := (h.mem _).1 hm
    obtain rfl := uid_inj hnd hd hc e
    exact huP (hall u huo hfu.there)
  have hassoc : (P ++ [u]) ++ (Q ++ freed l (P ++ [u]) (ownedBy l u)) = (P ++ (u :: Q)) ++ freed l (P ++ [u]) (ownedBy l u) := by simp
  refine ⟨?_, fun s => ?_, fun k hk => ?_⟩
  · rw [hassoc, List.nodup_append]
    exact ⟨hn, (ownedBy_nodup hnd u).filter _, fun a ha b hb e => hnew b hb (e ▸ ha)⟩
  · rw [hassoc, List.mem_append, mem_freed, mem_ownedBy]
    constructor
    · rintro (h1 | h1)
      · exact ((h.mem s).1 h1).mono (fun x hx => by simp [hx])
      · exact h1.2
    · intro hf
      by_cases h1 : s ∈ P ++ (u :: Q)
      · exact .inl h1
      · right
        refine ⟨?_, hf⟩
        obtain ⟨c, hc, e, hne, hall⟩ := hf
        refine ⟨c, hc, ?_, e⟩
        apply Classical.byContradiction
        intro hno
        exact h1 ((h.mem s).2 ⟨c, hc, e, hne, fun o ho hu => by
          have := hall o ho hu
          rw [List.mem_append, List.mem_singleton] at this
          rcases this with h2 | h2
          · exact h2
          · subst h2; exact absurd ho hno⟩)
  · by_cases e : k < P.length
    · have := h.ord k e
      rw [List.take_append_of_le_length (by omega)]
      simp only [List.getD, List.getElem?_append_left e] at this ⊢
      exact this
    · have ek : k = P.length := by simp at hk; omega
      subst ek
      rw [List.take_append_of_le_length (Nat.le_refl _), List.take_length]
      simpa [List.getD] using hfu
end Go.Proofs.Ytfdfljcieeccbaa

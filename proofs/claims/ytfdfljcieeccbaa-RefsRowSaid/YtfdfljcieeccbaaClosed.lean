/- THE PLAIN LAW of RefsClosed: what is left, once all that nobody owns is gone. No conditions but those said. -/
import Derived.Test.YtfdfljcieeccbaaWithout
namespace Go.Proofs.Ytfdfljcieeccbaa
theorem mem_rest (l : List Card) (out : List ByteArray) (c : Card) : c ∈ rest l out ↔ c ∈ l ∧ c.uid ∉ out := by
  unfold rest
  rw [List.mem_filter]
  cases hb : inB c.uid out
  · rw [inB_false] at hb; simp [hb]
  · rw [inB_iff] at hb; simp [hb]
theorem mem_uids (l : List Card) (s : ByteArray) : s ∈ uids l ↔ ∃ c ∈ l, c.uid = s := by unfold uids; rw [List.mem_map]
theorem mem_uids_rest (l : List Card) (out : List ByteArray) (s : ByteArray) : s ∈ uids (rest l out) ↔ s ∈ uids l ∧ s ∉ out := by
  rw [mem_uids, mem_uids]
  constructor
  · rintro ⟨c, hc, rfl⟩
    rw [mem_rest] at hc
    exact ⟨⟨c, hc.1, rfl⟩, hc.2⟩
  · rintro ⟨⟨c, hc, rfl⟩, h⟩
    exact ⟨c, (mem_rest _ _ _).2 ⟨hc, h⟩, rfl⟩
theorem GInv.free {l : List Card} {P : List ByteArray} (h : GInv l P []) (s : ByteArray) : s ∈ P ↔ Free l P s := by
  have := h.mem s
  rwa [List.append_nil] at this
/-- whoever is left has an owner that is left, or none. -/
theorem left_owned {l : List Card} {P : List ByteArray} (h : GInv l P []) {c : Card} (hc : c ∈ rest l P) : c.owners = [] ∨ ∃ o ∈ c.owners, o ∈ uids (rest l P) := by
  rw [mem_rest] at hc
  by_cases h1 : c.owners = []
  · exact .inl h1
  · right
    apply Classical.byContradiction
    intro hno
    refine hc.2 ((h.free c.uid).2 ⟨c, hc.1, rfl, h1, fun o ho hu => ?_⟩)
    apply Classical.byContradiction
    intro hP
    exact hno ⟨o, ho, (mem_uids_rest _ _ _).2 ⟨hu, hP⟩⟩
/-- nothing is left that nobody owns. -/
theorem left_none {l : List Card} {P Q : List ByteArray} (h : GInv l P []) (k : GInv (rest l P) Q []) : Q = [] := by
  cases Q with
  | nil => rfl
  | cons s Q =>
    have h0 := k.ord 0 (by simp)
    obtain ⟨c, hc, _, hne, hall⟩ := h0
    rcases left_owned h hc with h1 | ⟨o, ho, hu⟩
    · exact absurd h1 hne
    · have := hall o ho hu
      simp at this
theorem rest_count (l : List Card) (P : List ByteArray) (hl : (uids l).Nodup) (hP : P.Nodup) (hs : ∀ s ∈ P, s ∈ uids l) : (rest l P).length + P.length = l.length := by
  have h1 : (l.filter fun c => inB c.uid P).length = P.length := by
    have e : ((l.filter fun c => inB c.uid P).map Card.uid).Nodup := (List.filter_sublist.map Card.uid).nodup hl
    have a := nodup_sub_length e (B := P) (fun x hx => by
      obtain ⟨c, hc, rfl⟩ := List.mem_map.1 hx
      exact (inB_iff _ _).1 (List.mem_filter.1 hc).2)
    have b := nodup_sub_length hP (B := (l.filter fun c => inB c.uid P).map Card.uid) (fun x hx => by
      obtain ⟨c, hc, rfl⟩ := (mem_uids l x).1 (hs x hx)
      exact List.mem_map.2 ⟨c, List.mem_filter.2 ⟨hc, (inB_iff _ _).2 hx⟩, rfl⟩)
    rw [List.length_map] at a b
    omega
  have h2 : ∀ l : List Card, (l.filter fun c => !inB c.uid P).length + (l.filter fun c => inB c.uid P).length = l.length := by
    intro l
    induction l with
    | nil => rfl
    | cons c l ih =>
      cases hb : inB c.uid P
      · rw [List.filter_cons_of_pos (p := fun c : Card => !inB c.uid P) (by rw [hb]; rfl), List.filter_cons_of_neg (p := fun c : Card => inB c.uid P) (by rw [hb]; simp)]
        simp; omega
      · rw [List.filter_cons_of_neg (p := fun c : Card => !inB c.uid P) (by rw [hb]; simp), List.filter_cons_of_pos (p := fun c : Card => inB c.uid P) hb]
        simp; omega
  have := h2 l
  unfold rest
  omega
theorem rest_perm (l : List Card) {P P' : List ByteArray} (h : P'.Perm P) : rest l P' = rest l P := by
  unfold rest
  congr 1
  funext c
  congr 1
  rw [Bool.eq_iff_iff, inB_iff, inB_iff, h.mem_iff]
end Go.Proofs.Ytfdfljcieeccbaa

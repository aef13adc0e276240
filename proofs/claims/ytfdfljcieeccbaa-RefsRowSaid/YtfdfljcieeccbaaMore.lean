/- THE PLAIN LAW of RefsMore: when one is gone nothing comes to life by that. No conditions but those said. -/
import Derived.Test.YtfdfljcieeccbaaUnder
namespace Go.Proofs.Ytfdfljcieeccbaa
theorem getD_mem (A : List ByteArray) (k : Nat) (h : k < A.length) : A.getD k ByteArray.empty ∈ A := by
  simp only [List.getD, List.getElem?_eq_getElem h, Option.getD_some]; exact List.getElem_mem h
theorem mem_take_getD {A : List ByteArray} {k : Nat} {s : ByteArray} (h : s ∈ A.take k) : ∃ i, i < k ∧ i < A.length ∧ A.getD i ByteArray.empty = s := by
  obtain ⟨i, hi, e⟩ := List.getElem_of_mem h
  rw [List.length_take] at hi
  refine ⟨i, by omega, by omega, ?_⟩
  rw [← e, List.getElem_take]
  simp [List.getD, show i < A.length by omega]
theorem mem_getD {A : List ByteArray} {s : ByteArray} (h : s ∈ A) : ∃ i, i < A.length ∧ A.getD i ByteArray.empty = s := by
  obtain ⟨i, hi, e⟩ := List.getElem_of_mem h
  exact ⟨i, hi, by rw [← e]; simp [List.getD, hi]⟩
/-- who was nobody's is nobody's. -/
theorem more_stay {l : List Card} {P Q : List ByteArray} {x : ByteArray} (h : GInv l P []) (k : GInv (rest l [x]) Q []) (s : ByteArray) (hs : s ∈ P) (hx : s ≠ x) : s ∈ Q := by
  obtain ⟨i, hi, rfl⟩ := mem_getD hs
  induction i using Nat.strongRecOn with
  | _ i ih =>
    obtain ⟨c, hc, he, hne, hall⟩ := h.ord i hi
    refine (k.free _).2 ⟨c, (mem_rest _ _ _).2 ⟨hc, by rw [he]; simpa using hx⟩, he, hne, fun o ho hu => ?_⟩
    rw [mem_uids_rest] at hu
    obtain ⟨j, hj, hjl, rfl⟩ := mem_take_getD (hall o ho hu.1)
    exact ih j hj hjl (getD_mem _ _ hjl) (by simpa using hu.2)
/-- who is nobody's besides comes under it. -/
theorem more_new {l : List Card} {P Q : List ByteArray} {x : ByteArray} (h : GInv l P []) (k : GInv (rest l [x]) Q []) (s : ByteArray) (hs : s ∈ Q) : s ∈ P ∨ Desc l x s := by
  obtain ⟨i, hi, rfl⟩ := mem_getD hs
  induction i using Nat.strongRecOn with
  | _ i ih =>
    obtain ⟨c, hc, he, hne, hall⟩ := k.ord i hi
    rw [mem_rest] at hc
    by_cases hd : ∃ o ∈ c.owners, o = x ∨ Desc l x o
    · right
      obtain ⟨o, ho, hox⟩ := hd
      have hm : c.uid ∈ ownedBy l o := (mem_ownedBy l o _).2 ⟨c, hc.1, ho, rfl⟩
      rw [← he]
      rcases hox with rfl | hox
      · exact Desc.one hm
      · exact hox.step hm
    · left
      refine (h.free _).2 ⟨c, hc.1, he, hne, fun o ho hu => ?_⟩
      have hox : o ≠ x := fun e => hd ⟨o, ho, .inl e⟩
      obtain ⟨j, hj, hjl, e⟩ := mem_take_getD (hall o ho ((mem_uids_rest _ _ _).2 ⟨hu, by simpa using hox⟩))
      rcases ih j hj hjl (getD_mem _ _ hjl) with h1 | h1
      · rw [← e]; exact h1
      · exact absurd ⟨o, ho, .inr (by rw [← e]; exact h1)⟩ hd
theorem GInv.none {P : List ByteArray} (h : GInv [] P []) : P = [] := by
  cases P with
  | nil => rfl
  | cons s P =>
    obtain ⟨c, hc, _⟩ := (h.free s).1 (by simp)
    simp at hc
end Go.Proofs.Ytfdfljcieeccbaa

/- PLAIN LEMMAS, no Go in sight: a binary heap of things that wait (id, flow, start), as container/heap keeps it in a list. No conditions. -/
namespace Go.Proofs.Ytdpkplnffemmgaa

/-- what waits. -/
structure Th where
  id : Int
  fl : Int
  st : Int
deriving DecidableEq

namespace Th
def dflt : Th := ⟨0, 0, 0⟩
/-- the order of a line. -/
def le (a b : Th) : Prop := a.st < b.st ∨ (a.st = b.st ∧ a.fl ≤ b.fl)
/-- Go's own Less. -/
def lessB (a b : Th) : Bool := if (a.st != b.st) = true then decide (a.st < b.st) else decide (a.fl < b.fl)

theorem lessB_iff (a b : Th) : lessB a b = true ↔ ¬ le b a := by
  unfold lessB le
  by_cases h : a.st = b.st
  · simp [h]
  · have : (a.st != b.st) = true := by simpa using h
    rw [if_pos this]; simp; omega
theorem lessB_false (a b : Th) : lessB a b = false ↔ le b a := by
  have := lessB_iff a b
  cases h : lessB a b
  · simp [h] at this; simpa using this
  · simp [h] at this; simpa using this
theorem le_refl (a : Th) : le a a := by unfold le; omega
theorem le_trans {a b c : Th} (h : le a b) (k : le b c) : le a c := by unfold le at *; omega
theorem le_total (a b : Th) : le a b ∨ le b a := by unfold le; omega
theorem le_of_not {a b : Th} (h : ¬ le b a) : le a b := by unfold le at *; omega
end Th
open Th

def gt (l : List Th) (k : Nat) : Th := l.getD k Th.dflt

def swp (l : List Th) (i j : Nat) : List Th := (l.set i (gt l j)).set j (gt l i)

theorem swp_length (l : List Th) (i j : Nat) : (swp l i j).length = l.length := by simp [swp]

theorem gt_eq (l : List Th) (k : Nat) (h : k < l.length) : gt l k = l[k] := by simp [gt, List.getD, h]

theorem swp_perm (l : List Th) (i j : Nat) (hi : i < l.length) (hj : j < l.length) : (swp l i j).Perm l := by
  unfold swp; rw [gt_eq l i hi, gt_eq l j hj]
  exact List.set_set_perm hi hj

theorem gt_set (l : List Th) (i k : Nat) (x : Th) (hi : i < l.length) : gt (l.set i x) k = if k = i then x else gt l k := by
  simp only [gt, List.getD, List.getElem?_set]
  by_cases h : i = k
  · subst h; simp [hi]
  · rw [if_neg h, if_neg (fun e => h e.symm)]

theorem gt_swp (l : List Th) (i j k : Nat) (hi : i < l.length) (hj : j < l.length) :
    gt (swp l i j) k = if k = j then gt l i else if k = i then gt l j else gt l k := by
  unfold swp
  rw [gt_set _ _ _ _ (by simpa using hj), gt_set _ _ _ _ hi]

/-- everybody below its parent, among the first n. -/
def HeapN (l : List Th) (n : Nat) : Prop := ∀ k, 0 < k → k < n → le (gt l ((k - 1) / 2)) (gt l k)

/-- the head is the least. -/
theorem HeapN.least {l : List Th} {n : Nat} (h : HeapN l n) : ∀ k, k < n → le (gt l 0) (gt l k) := by
  intro k
  induction k using Nat.strongRecOn with
  | ind k ih =>
    intro hk
    by_cases h0 : k = 0
    · subst h0; exact le_refl _
    · exact le_trans (ih ((k - 1) / 2) (by omega) (by omega)) (h k (by omega) hk)

/-- what holds while one goes up from j. -/
def Upping (l : List Th) (n j : Nat) : Prop :=
  (∀ k, 0 < k → k < n → k ≠ j → le (gt l ((k - 1) / 2)) (gt l k)) ∧
  (0 < j → ∀ k, 0 < k → k < n → (k - 1) / 2 = j → le (gt l ((j - 1) / 2)) (gt l k))

theorem Upping.start {l : List Th} {n : Nat} (h : HeapN l n) : Upping l (n + 1) n := by
  refine ⟨fun k h0 hk hn => h k h0 (by omega), fun _ k h0 hk he => ?_⟩
  omega

theorem Upping.done {l : List Th} {n j : Nat} (h : Upping l n j) (hd : j = 0 ∨ le (gt l ((j - 1) / 2)) (gt l j)) : HeapN l n := by
  intro k h0 hk
  by_cases e : k = j
  · subst e; rcases hd with hd | hd
    · omega
    · exact hd
  · exact h.1 k h0 hk e

theorem Upping.step {l : List Th} {n j : Nat} (h : Upping l n j) (h0 : 0 < j) (hj : j < n) (hn : n ≤ l.length) (hl : ¬ le (gt l ((j - 1) / 2)) (gt l j)) :
    Upping (swp l ((j - 1) / 2) j) n ((j - 1) / 2) := by
  have hji : (j - 1) / 2 < j := by omega
  have hlt := le_of_not hl
  refine ⟨fun k hk0 hk hne => ?_, fun hi0 k hk0 hk hpar => ?_⟩
  · rw [gt_swp _ _ _ _ (by omega) (by omega), gt_swp _ _ _ _ (by omega) (by omega)]
    by_cases e : k = j
    · subst e
      rw [if_neg (by omega), if_pos rfl, if_pos rfl]
      exact hlt
    · by_cases e2 : (k - 1) / 2 = j
      · rw [if_pos e2, if_neg e, if_neg hne]
        exact h.2 h0 k hk0 hk e2
      · rw [if_neg e2, if_neg e, if_neg hne]
        by_cases e3 : (k - 1) / 2 = (j - 1) / 2
        · rw [if_pos e3]
          exact le_trans hlt (by rw [← e3]; exact h.1 k hk0 hk e)
        · rw [if_neg e3]
          exact h.1 k hk0 hk e
  · rw [gt_swp _ _ _ _ (by omega) (by omega), gt_swp _ _ _ _ (by omega) (by omega)]
    have a : ((j - 1) / 2 - 1) / 2 ≠ j := by omega
    have b : ((j - 1) / 2 - 1) / 2 ≠ (j - 1) / 2 := by omega
    have c : k ≠ (j - 1) / 2 := by omega
    rw [if_neg a, if_neg b, if_neg c]
    have hp := h.1 ((j - 1) / 2) (by omega) (by omega) (by omega)
    by_cases e : k = j
    · subst e
      rw [if_pos rfl]
      exact hp
    · rw [if_neg e]
      have := h.1 k hk0 hk e
      rw [hpar] at this
      exact le_trans hp this

/-- what holds while one goes down from i. -/
def Downing (l : List Th) (n i : Nat) : Prop :=
  (∀ k, 0 < k → k < n → (k - 1) / 2 ≠ i → le (gt l ((k - 1) / 2)) (gt l k)) ∧
  (0 < i → ∀ k, 0 < k → k < n → (k - 1) / 2 = i → le (gt l ((i - 1) / 2)) (gt l k))

theorem Downing.start {l : List Th} {n : Nat} (h : ∀ k, 0 < k → k < n → (k - 1) / 2 ≠ 0 → le (gt l ((k - 1) / 2)) (gt l k)) : Downing l n 0 :=
  ⟨h, fun h0 => absurd h0 (by omega)⟩

theorem Downing.done {l : List Th} {n i : Nat} (h : Downing l n i) (hd : ∀ k, 0 < k → k < n → (k - 1) / 2 = i → le (gt l i) (gt l k)) : HeapN l n := by
  intro k h0 hk
  by_cases e : (k - 1) / 2 = i
  · rw [e]; exact hd k h0 hk e
  · exact h.1 k h0 hk e

/-- j: the lesser child. -/
theorem Downing.step {l : List Th} {n i j : Nat} (h : Downing l n i) (hj : j < n) (hp : (j - 1) / 2 = i) (h0 : 0 < j) (hn : n ≤ l.length)
    (hmin : ∀ k, 0 < k → k < n → (k - 1) / 2 = i → le (gt l j) (gt l k)) (hl : le (gt l j) (gt l i)) :
    Downing (swp l i j) n j := by
  have hij : i < j := by omega
  refine ⟨fun k hk0 hk hne => ?_, fun _ k hk0 hk hpar => ?_⟩
  · rw [gt_swp _ _ _ _ (by omega) (by omega), gt_swp _ _ _ _ (by omega) (by omega)]
    rw [if_neg hne]
    by_cases e : (k - 1) / 2 = i
    · rw [if_pos e]
      by_cases e2 : k = j
      · rw [if_pos e2]; exact hl
      · rw [if_neg e2, if_neg (by omega)]; exact hmin k hk0 hk e
    · rw [if_neg e]
      by_cases e2 : k = j
      · omega
      · rw [if_neg e2]
        by_cases e3 : k = i
        · rw [if_pos e3]; subst e3; exact h.2 hk0 j h0 hj hp
        · rw [if_neg e3]; exact h.1 k hk0 hk e
  · rw [gt_swp _ _ _ _ (by omega) (by omega), gt_swp _ _ _ _ (by omega) (by omega)]
    rw [hp, if_neg (by omega), if_pos rfl, if_neg (by omega), if_neg (by omega)]
    have := h.1 k hk0 hk (by omega)
    rw [hpar] at this
    exact this

/-- the cells of things. -/
theorem heap_take {l : List Th} {n : Nat} (h : HeapN l n) (hn : n ≤ l.length) : HeapN (l.take n) n := by
  intro k h0 hk
  have a : ∀ m, m < n → gt (l.take n) m = gt l m := fun m hm => by simp [gt, List.getD, hm]
  rw [a _ (by omega), a _ hk]
  exact h k h0 hk

/-- what a pop leaves: the last at the head, and the head put aside. -/
theorem pop_start {l : List Th} {m : Nat} (h : HeapN l (m + 1)) (hl : l.length = m + 1) : Downing (swp l 0 m) m 0 := by
  refine Downing.start fun k h0 hk hne => ?_
  rw [gt_swp _ _ _ _ (by omega) (by omega), gt_swp _ _ _ _ (by omega) (by omega)]
  rw [if_neg (by omega), if_neg (by omega), if_neg (by omega), if_neg (by omega)]
  exact h k h0 (by omega)

theorem perm_take_last {l l' : List Th} {m : Nat} (hl : l.length = m + 1) (hp : l'.Perm l) (hlast : gt l' m = gt l 0) : (gt l 0 :: l'.take m).Perm l := by
  have hl' : l'.length = m + 1 := by rw [hp.length_eq, hl]
  have e : l' = l'.take m ++ [gt l' m] := by
    rw [gt_eq l' m (by omega)]
    apply List.ext_getElem
    · simp [hl']
    · intro i h1 h2
      rw [List.getElem_append]
      split
      · simp
      · rename_i hh
        simp [hl'] at hh
        have : i = m := by omega
        subst this; simp
  rw [hlast] at e
  have p : (l'.take m ++ [gt l 0]).Perm (gt l 0 :: l'.take m) := List.perm_append_comm.trans (List.Perm.refl _)
  exact p.symm.trans (by rw [← e]; exact hp)

theorem heapN_append {l : List Th} {t : Th} (h : HeapN l l.length) : HeapN (l ++ [t]) l.length := by
  intro k h0 hk
  have a : ∀ m, m < l.length → gt (l ++ [t]) m = gt l m := fun m hm => by simp [gt, List.getD, hm, List.getElem?_append]
  rw [a _ (by omega), a _ hk]
  exact h k h0 hk
end Go.Proofs.Ytdpkplnffemmgaa

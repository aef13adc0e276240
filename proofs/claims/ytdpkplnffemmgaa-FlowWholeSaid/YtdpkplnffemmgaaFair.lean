/- PLAIN LEMMAS, no Go in sight: of two flows neither gets ahead of the other. No conditions. -/
import Derived.Test.YtdpkplnffemmgaaHeap
namespace Go.Proofs.Ytdpkplnffemmgaa
open Th

def sumTo (A : List Int) (k : Nat) : Int := (A.take k).sum
theorem sumTo_zero (A : List Int) : sumTo A 0 = 0 := by simp [sumTo]
theorem sumTo_succ (A : List Int) (k : Nat) (h : k < A.length) : sumTo A (k + 1) = sumTo A k + A.getD k 0 := by
  unfold sumTo
  rw [List.take_succ_eq_append_getElem h, List.sum_append]
  simp [List.getD, h]
def Costs (A : List Int) : Prop := ∀ x ∈ A, 1 ≤ x ∧ x ≤ 1000
theorem Costs.at {A : List Int} (h : Costs A) (k : Nat) (hk : k < A.length) : 1 ≤ A.getD k 0 ∧ A.getD k 0 ≤ 1000 := by
  have : A.getD k 0 = A[k] := by simp [List.getD, hk]
  rw [this]; exact h _ (List.getElem_mem hk)
theorem sumTo_bd {A : List Int} (h : Costs A) (k : Nat) (hk : k ≤ A.length) : (k : Int) ≤ sumTo A k ∧ sumTo A k ≤ 1000 * k := by
  induction k with
  | zero => simp [sumTo_zero]
  | succ k ih =>
    have := ih (by omega)
    have := h.at k (by omega)
    rw [sumTo_succ A k (by omega)]
    omega
theorem sumTo_lt {A : List Int} (h : Costs A) (j k : Nat) (hjk : j < k) (hk : k ≤ A.length) : sumTo A j < sumTo A k := by
  induction k with
  | zero => omega
  | succ k ih =>
    have := h.at k (by omega)
    rw [sumTo_succ A k (by omega)]
    by_cases e : j = k
    · subst e; omega
    · have := ih (by omega) (by omega); omega

def offs (f : Int) (c : Int) (A : List Int) (k : Nat) : List Th := (List.range k).map fun (j : Nat) => ⟨(j : Int), f, c * sumTo A j⟩
theorem offs_length (f c : Int) (A : List Int) (k : Nat) : (offs f c A k).length = k := by simp [offs]
theorem offs_succ (f c : Int) (A : List Int) (k : Nat) : offs f c A (k + 1) = offs f c A k ++ [⟨(k : Int), f, c * sumTo A k⟩] := by simp [offs, List.range_succ]
theorem offs_get (f c : Int) (A : List Int) (n j : Nat) (h : j < n) : (offs f c A n)[j]? = some ⟨(j : Int), f, c * sumTo A j⟩ := by simp [offs, h]
theorem offs_drop (f c : Int) (A : List Int) (n p : Nat) (h : p < n) : (offs f c A n).drop p = ⟨(p : Int), f, c * sumTo A p⟩ :: (offs f c A n).drop (p + 1) := by
  rw [List.drop_eq_getElem_cons (by rw [offs_length]; exact h)]
  congr 1
  have := offs_get f c A n p h
  rw [List.getElem?_eq_getElem (by rw [offs_length]; exact h)] at this
  exact Option.some.inj this
theorem offs_mem (f c : Int) (A : List Int) (n p : Nat) (t : Th) (h : t ∈ (offs f c A n).drop p) : ∃ j, p ≤ j ∧ j < n ∧ t = ⟨(j : Int), f, c * sumTo A j⟩ := by
  obtain ⟨i, hi, he⟩ := List.getElem_of_mem h
  simp only [List.length_drop, offs_length] at hi
  refine ⟨p + i, by omega, by omega, ?_⟩
  rw [← he, List.getElem_drop]
  have := offs_get f c A n (p + i) (by omega)
  rw [List.getElem?_eq_getElem (by rw [offs_length]; omega)] at this
  exact Option.some.inj this

/-- what a pop hands out. -/
theorem pop_which {cA cB : Int} {A B : List Int} {p q : Nat} {ts ts' : List Th} (hA : Costs A) (hB : Costs B) (ha : 1 ≤ cA) (hb : 1 ≤ cB)
    (hp : ts.Perm ((offs 0 cA A A.length).drop p ++ (offs 1 cB B B.length).drop q)) (hh : HeapN ts ts.length) (hne : 0 < ts.length) (hpop : (gt ts 0 :: ts').Perm ts) :
    (p < A.length ∧ gt ts 0 = ⟨(p : Int), 0, cA * sumTo A p⟩ ∧ (q < B.length → cA * sumTo A p ≤ cB * sumTo B q) ∧ ts'.Perm ((offs 0 cA A A.length).drop (p + 1) ++ (offs 1 cB B B.length).drop q)) ∨
    (q < B.length ∧ gt ts 0 = ⟨(q : Int), 1, cB * sumTo B q⟩ ∧ (p < A.length → cB * sumTo B q ≤ cA * sumTo A p) ∧ ts'.Perm ((offs 0 cA A A.length).drop p ++ (offs 1 cB B B.length).drop (q + 1))) := by
  have hleast : ∀ t, t ∈ ts → le (gt ts 0) t := by
    intro t ht
    obtain ⟨i, hi, he⟩ := List.getElem_of_mem ht
    have := hh.least i hi
    rw [gt_eq ts i hi, he] at this
    exact this
  have hmem : gt ts 0 ∈ ts := by rw [gt_eq ts 0 hne]; exact List.getElem_mem hne
  have hm2 := hp.mem_iff.1 hmem
  have hAm : p < A.length → (⟨(p : Int), 0, cA * sumTo A p⟩ : Th) ∈ ts := fun h => hp.mem_iff.2 (by rw [offs_drop 0 cA A A.length p h]; simp)
  have hBm : q < B.length → (⟨(q : Int), 1, cB * sumTo B q⟩ : Th) ∈ ts := fun h => hp.mem_iff.2 (by rw [offs_drop 1 cB B B.length q h]; simp)
  have key : ∀ (c : Int) (L : List Int) (j k : Nat), Costs L → 1 ≤ c → k < j → j < L.length → c * sumTo L j ≤ c * sumTo L k → False := by
    intro c L j k hL hc hkj hj hle
    have := sumTo_lt hL k j hkj (by omega)
    have : c * sumTo L k < c * sumTo L j := Int.mul_lt_mul_of_pos_left this (by omega)
    omega
  rcases List.mem_append.1 hm2 with hm | hm
  · left
    obtain ⟨j, hj1, hj2, he⟩ := offs_mem _ _ _ _ _ _ hm
    have hpl : p < A.length := by omega
    have h1 := hleast _ (hAm hpl)
    have hjp : j = p := by
      by_cases e : j = p
      · exact e
      · exfalso
        rw [he] at h1
        unfold le at h1
        exact key cA A j p hA ha (by omega) hj2 (by dsimp at h1; omega)
    subst hjp
    refine ⟨hpl, he, fun hq => ?_, ?_⟩
    · have h2 := hleast _ (hBm hq)
      rw [he] at h2
      unfold le at h2
      dsimp at h2
      omega
    · rw [he] at hpop
      have := hpop.trans hp
      rw [offs_drop 0 cA A A.length j hpl] at this
      exact this.cons_inv
  · right
    obtain ⟨j, hj1, hj2, he⟩ := offs_mem _ _ _ _ _ _ hm
    have hql : q < B.length := by omega
    have h1 := hleast _ (hBm hql)
    have hjq : j = q := by
      by_cases e : j = q
      · exact e
      · exfalso
        rw [he] at h1
        unfold le at h1
        exact key cB B j q hB hb (by omega) hj2 (by dsimp at h1; omega)
    subst hjq
    refine ⟨hql, he, fun hq => ?_, ?_⟩
    · have h2 := hleast _ (hAm hq)
      rw [he] at h2
      unfold le at h2
      dsimp at h2
      omega
    · rw [he] at hpop
      have := hpop.trans hp
      rw [offs_drop 1 cB B B.length j hql] at this
      exact (this.trans List.perm_middle).cons_inv

/-- the two flows' times while both wait. -/
def Even (cA cB : Int) (A B : List Int) (p q : Nat) : Prop :=
  (p = 0 ∨ cA * sumTo A (p - 1) ≤ cB * sumTo B q) ∧ (q = 0 ∨ cB * sumTo B (q - 1) ≤ cA * sumTo A p)
theorem Even.start (cA cB : Int) (A B : List Int) : Even cA cB A B 0 0 := ⟨.inl rfl, .inl rfl⟩
theorem Even.popA {cA cB : Int} {A B : List Int} {p q : Nat} (h : Even cA cB A B p q) (hA : Costs A) (ha : 1 ≤ cA) (hp : p < A.length) (hle : cA * sumTo A p ≤ cB * sumTo B q) : Even cA cB A B (p + 1) q := by
  refine ⟨.inr (by simpa using hle), ?_⟩
  rcases h.2 with h2 | h2
  · exact .inl h2
  · refine .inr (Int.le_trans h2 ?_)
    have := sumTo_lt hA p (p + 1) (by omega) (by omega)
    exact Int.mul_le_mul_of_nonneg_left (by omega) (by omega)
theorem Even.popB {cA cB : Int} {A B : List Int} {p q : Nat} (h : Even cA cB A B p q) (hB : Costs B) (hb : 1 ≤ cB) (hq : q < B.length) (hle : cB * sumTo B q ≤ cA * sumTo A p) : Even cA cB A B p (q + 1) := by
  refine ⟨?_, .inr (by simpa using hle)⟩
  rcases h.1 with h1 | h1
  · exact .inl h1
  · refine .inr (Int.le_trans h1 ?_)
    have := sumTo_lt hB q (q + 1) (by omega) (by omega)
    exact Int.mul_le_mul_of_nonneg_left (by omega) (by omega)

theorem scale {cA cB v w x y : Int} (hv : cA * v = 2520) (hw : cB * w = 2520) (hv1 : 1 ≤ v) (hw1 : 1 ≤ w) (h : cA * x ≤ cB * y) : x * w ≤ y * v := by
  have h1 : (v * w) * (cA * x) ≤ (v * w) * (cB * y) := Int.mul_le_mul_of_nonneg_left h (Int.mul_nonneg (by omega) (by omega))
  have e1 : (v * w) * (cA * x) = 2520 * (x * w) := by rw [← hv]; simp [Int.mul_comm, Int.mul_left_comm, Int.mul_assoc]
  have e2 : (v * w) * (cB * y) = 2520 * (y * v) := by rw [← hw]; simp [Int.mul_comm, Int.mul_left_comm, Int.mul_assoc]
  rw [e1, e2] at h1
  omega

/-- the gap. -/
theorem Even.gap {cA cB : Int} {A B : List Int} {p q : Nat} {v w mA mB : Int} (h : Even cA cB A B p q) (hA : Costs A) (hB : Costs B) (hv : cA * v = 2520) (hw : cB * w = 2520) (hv1 : 1 ≤ v) (hw1 : 1 ≤ w)
    (hp : p ≤ A.length) (hq : q ≤ B.length) (hmA : ∀ j, j < A.length → A.getD j 0 ≤ mA) (hmB : ∀ j, j < B.length → B.getD j 0 ≤ mB) (hmA0 : 0 ≤ mA) (hmB0 : 0 ≤ mB) :
    sumTo A p * w - sumTo B q * v ≤ mA * w + mB * v ∧ -(sumTo A p * w - sumTo B q * v) ≤ mA * w + mB * v := by
  have hsA := (sumTo_bd hA p hp).1
  have hsB := (sumTo_bd hB q hq).1
  have z1 : 0 ≤ sumTo A p * w := Int.mul_nonneg (by omega) (by omega)
  have z2 : 0 ≤ sumTo B q * v := Int.mul_nonneg (by omega) (by omega)
  have z3 : 0 ≤ mA * w := Int.mul_nonneg (by omega) (by omega)
  have z4 : 0 ≤ mB * v := Int.mul_nonneg (by omega) (by omega)
  constructor
  · rcases h.1 with h1 | h1
    · subst h1; rw [sumTo_zero] at *; omega
    · have h2 := scale hv hw hv1 hw1 h1
      by_cases p0 : p = 0
      · subst p0; rw [sumTo_zero] at *; omega
      · have e : sumTo A p = sumTo A (p - 1) + A.getD (p - 1) 0 := by
          have := sumTo_succ A (p - 1) (by omega)
          rw [show p - 1 + 1 = p from by omega] at this
          exact this
        have h3 : A.getD (p - 1) 0 * w ≤ mA * w := Int.mul_le_mul_of_nonneg_right (hmA _ (by omega)) (by omega)
        rw [e, Int.add_mul]
        omega
  · rcases h.2 with h1 | h1
    · subst h1; rw [sumTo_zero] at *; omega
    · have h2 := scale hw hv hw1 hv1 h1
      by_cases q0 : q = 0
      · subst q0; rw [sumTo_zero] at *; omega
      · have e : sumTo B q = sumTo B (q - 1) + B.getD (q - 1) 0 := by
          have := sumTo_succ B (q - 1) (by omega)
          rw [show q - 1 + 1 = q from by omega] at this
          exact this
        have h3 : B.getD (q - 1) 0 * v ≤ mB * v := Int.mul_le_mul_of_nonneg_right (hmB _ (by omega)) (by omega)
        rw [e, Int.add_mul]
        omega

theorem parts (v : Int) (h1 : 1 ≤ v) (h2 : v ≤ 10) : (2520 / v) * v = 2520 ∧ 252 ≤ 2520 / v ∧ 2520 / v ≤ 2520 := by
  have : v = 1 ∨ v = 2 ∨ v = 3 ∨ v = 4 ∨ v = 5 ∨ v = 6 ∨ v = 7 ∨ v = 8 ∨ v = 9 ∨ v = 10 := by omega
  rcases this with h | h | h | h | h | h | h | h | h | h <;> subst h <;> decide
theorem part_of (v x : Int) (h1 : 1 ≤ v) (h2 : v ≤ 10) : 2520 * x / v = (2520 / v) * x := by
  obtain ⟨h, _⟩ := parts v h1 h2
  have : 2520 * x = ((2520 / v) * x) * v := by
    rw [Int.mul_assoc, Int.mul_comm x v, ← Int.mul_assoc, h]
  rw [this, Int.mul_ediv_cancel _ (by omega)]
end Go.Proofs.Ytdpkplnffemmgaa

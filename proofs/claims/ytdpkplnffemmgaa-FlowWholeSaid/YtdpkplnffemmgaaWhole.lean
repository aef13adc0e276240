/- PLAIN LEMMAS, no Go in sight: all that waits comes once, each flow's in its order. No conditions. -/
import Derived.Test.YtdpkplnffemmgaaHeap
namespace Go.Proofs.Ytdpkplnffemmgaa
open Th

theorem set_flatten {α : Type} (Ss : List (List α)) (k : Nat) (x : List α) (h : k < Ss.length) :
    (Ss.set k x).flatten = (Ss.take k).flatten ++ (x ++ (Ss.drop (k + 1)).flatten) := by
  rw [List.set_eq_take_append_cons_drop, if_pos h, List.flatten_append, List.flatten_cons]
theorem self_flatten {α : Type} (Ss : List (List α)) (k : Nat) (h : k < Ss.length) :
    Ss.flatten = (Ss.take k).flatten ++ (Ss.getD k [] ++ (Ss.drop (k + 1)).flatten) := by
  have e : Ss = Ss.set k (Ss.getD k []) := by
    apply List.ext_getElem
    · simp
    · intro i h1 h2
      rw [List.getElem_set]
      split
      · rename_i e; subst e; simp [List.getD, h1]
      · rfl
  conv => lhs; rw [e]
  exact set_flatten Ss k _ h

structure QInv (nf : Nat) (es : List Int) (Ss : List (List Th)) (ts : List Th) : Prop where
  len : Ss.length = nf
  elen : es.length = nf
  perm : ts.Perm Ss.flatten
  fl : ∀ k, k < nf → ∀ t ∈ Ss.getD k [], t.fl = k
  inc : ∀ k, k < nf → (Ss.getD k []).Pairwise (fun a b => a.st < b.st)
  lt : ∀ k, k < nf → ∀ t ∈ Ss.getD k [], t.st < es.getD k 0

theorem getD_set {α : Type} (l : List α) (i k : Nat) (x d : α) (hi : i < l.length) : (l.set i x).getD k d = if k = i then x else l.getD k d := by
  simp only [List.getD, List.getElem?_set]
  by_cases h : i = k
  · subst h; simp [hi]
  · rw [if_neg h, if_neg (fun e => h e.symm)]

theorem QInv.offer {nf : Nat} {es : List Int} {Ss : List (List Th)} {ts ts' : List Th} (h : QInv nf es Ss ts) (k : Nat) (hk : k < nf) (id st d : Int) (hst : es.getD k 0 ≤ st) (hd : 1 ≤ d)
    (hp : ts'.Perm (ts ++ [⟨id, k, st⟩])) : QInv nf (es.set k (st + d)) (Ss.set k (Ss.getD k [] ++ [⟨id, k, st⟩])) ts' := by
  have hkS : k < Ss.length := by rw [h.len]; exact hk
  have hkE : k < es.length := by rw [h.elen]; exact hk
  refine ⟨by rw [List.length_set]; exact h.len, by rw [List.length_set]; exact h.elen, ?_, ?_, ?_, ?_⟩
  · refine hp.trans ?_
    rw [set_flatten _ _ _ hkS, List.append_assoc]
    refine (List.Perm.append_right _ h.perm).trans ?_
    rw [self_flatten Ss k hkS, List.append_assoc, List.append_assoc]
    refine List.Perm.append_left _ (List.Perm.append_left _ ?_)
    exact List.perm_append_comm
  · intro j hj t ht
    rw [getD_set _ _ _ _ _ hkS] at ht
    split at ht
    · rename_i e; subst e
      rcases List.mem_append.1 ht with ht | ht
      · exact h.fl j hj t ht
      · simp at ht; rw [ht]
    · exact h.fl j hj t ht
  · intro j hj
    rw [getD_set _ _ _ _ _ hkS]
    split
    · rename_i e; subst e
      rw [List.pairwise_append]
      refine ⟨h.inc j hj, by simp, fun a ha b hb => ?_⟩
      simp at hb; rw [hb]
      have := h.lt j hj a ha
      show a.st < st
      omega
    · exact h.inc j hj
  · intro j hj t ht
    rw [getD_set _ _ _ _ _ hkS] at ht
    rw [getD_set _ _ _ _ _ hkE]
    split at ht
    · rename_i e; subst e
      rw [if_pos rfl]
      rcases List.mem_append.1 ht with ht | ht
      · have := h.lt j hj t ht; omega
      · simp at ht; rw [ht]; show st < st + d; omega
    · rename_i e
      rw [if_neg e]
      exact h.lt j hj t ht

theorem QInv.next {nf : Nat} {es : List Int} {Ss : List (List Th)} {ts ts' : List Th} (h : QInv nf es Ss ts) (hh : HeapN ts ts.length) (hne : 0 < ts.length) (hpop : (gt ts 0 :: ts').Perm ts) :
    ∃ k rest, k < nf ∧ (gt ts 0).fl = k ∧ Ss.getD k [] = gt ts 0 :: rest ∧ QInv nf es (Ss.set k rest) ts' := by
  have hleast : ∀ t, t ∈ ts → le (gt ts 0) t := by
    intro t ht
    obtain ⟨i, hi, he⟩ := List.getElem_of_mem ht
    have := hh.least i hi
    rw [gt_eq ts i hi, he] at this
    exact this
  have hmem : gt ts 0 ∈ ts := by rw [gt_eq ts 0 hne]; exact List.getElem_mem hne
  obtain ⟨S, hS, hm⟩ := List.mem_flatten.1 (h.perm.mem_iff.1 hmem)
  obtain ⟨k, hk, hkS⟩ := List.getElem_of_mem hS
  have hkn : k < nf := by rw [← h.len]; exact hk
  have hgk : Ss.getD k [] = S := by simp [List.getD, hk, hkS]
  have hfl : (gt ts 0).fl = k := h.fl k hkn _ (by rw [hgk]; exact hm)
  cases S with
  | nil => simp at hm
  | cons a rest =>
    have hin : a ∈ ts := h.perm.mem_iff.2 (List.mem_flatten.2 ⟨_, hS, List.mem_cons_self⟩)
    have hle := hleast a hin
    have hpw := h.inc k hkn
    rw [hgk, List.pairwise_cons] at hpw
    have ha : gt ts 0 = a := by
      rcases List.mem_cons.1 hm with e | e
      · exact e
      · exfalso
        have := hpw.1 _ e
        unfold le at hle
        omega
    refine ⟨k, rest, hkn, hfl, by rw [hgk, ha], ?_⟩
    refine ⟨by rw [List.length_set]; exact h.len, h.elen, ?_, ?_, ?_, ?_⟩
    · have hp := hpop.trans h.perm
      rw [self_flatten Ss k hk, hgk, ha] at hp
      rw [set_flatten _ _ _ hk]
      exact (hp.trans List.perm_middle).cons_inv
    · intro j hj t ht
      rw [getD_set _ _ _ _ _ hk] at ht
      split at ht
      · rename_i e; subst e
        exact h.fl j hj t (by rw [hgk]; exact List.mem_cons_of_mem _ ht)
      · exact h.fl j hj t ht
    · intro j hj
      rw [getD_set _ _ _ _ _ hk]
      split
      · exact hpw.2
      · exact h.inc j hj
    · intro j hj t ht
      rw [getD_set _ _ _ _ _ hk] at ht
      split at ht
      · rename_i e; subst e
        exact h.lt j hj t (by rw [hgk]; exact List.mem_cons_of_mem _ ht)
      · exact h.lt j hj t ht
end Go.Proofs.Ytdpkplnffemmgaa

/- THE WALK of refs.Garbage. Conditions: the cards hold in memory what they say. -/
import Derived.Test.YtfdfljcieeccbaaGar
import Derived.BigRegion
namespace Go.Proofs.Ytfdfljcieeccbaa
open Go.RowKit Go.Sort
attribute [local go_sem] run_makeMap
attribute [local go_sem ↓ high] appWr_eq

noncomputable def start0 (l : List Card) (i : Nat) : List ByteArray := ((l.take i).filter fun c => decide (0 < c.owners.length) && decide (waitsN l [] c = 0)).map Card.uid
theorem start0_succ (l : List Card) (i : Nat) (h : i < l.length) : start0 l (i + 1) = start0 l i ++ (if 0 < (gc l i).owners.length ∧ waitsN l [] (gc l i) = 0 then [(gc l i).uid] else []) := by
  unfold start0
  rw [take_succ_gc l i h, List.filter_append, List.map_append]
  congr 1
  by_cases h1 : 0 < (gc l i).owners.length <;> by_cases h2 : waitsN l [] (gc l i) = 0 <;> simp [h1, h2]
theorem start0_length (l : List Card) (i : Nat) : (start0 l i).length ≤ l.length := by
  unfold start0
  rw [List.length_map]
  have := List.length_filter_le (fun c => decide (0 < c.owners.length) && decide (waitsN l [] c = 0)) (l.take i)
  rw [List.length_take] at this
  omega
theorem start0_inv (l : List Card) (hnd : (uids l).Nodup) : GInv l [] (start0 l l.length) := by
  unfold start0
  rw [List.take_length]
  refine ⟨?_, fun s => ?_, fun k hk => by simp at hk⟩
  · rw [List.nil_append]; exact (List.filter_sublist.map Card.uid).nodup hnd
  · rw [List.nil_append, List.mem_map]
    constructor
    · rintro ⟨c, hc, rfl⟩
      obtain ⟨h1, h2⟩ := List.mem_filter.1 hc
      simp only [Bool.and_eq_true, decide_eq_true_eq] at h2
      exact ⟨c, h1, rfl, List.ne_nil_of_length_pos h2.1, (waitsN_zero l [] c).1 h2.2⟩
    · rintro ⟨c, hc, rfl, h1, h2⟩
      refine ⟨c, List.mem_filter.2 ⟨hc, ?_⟩, rfl⟩
      simp only [Bool.and_eq_true, decide_eq_true_eq]
      exact ⟨List.length_pos_iff.2 h1, (waitsN_zero l [] c).2 h2⟩
noncomputable def cntP (l : List Card) (c : Card) (j : Nat) : Nat := (((distinct c.owners).take j).filter fun o => inB o (uids l)).length
theorem cntP_zero (l : List Card) (c : Card) : cntP l c 0 = 0 := rfl
theorem cntP_succ (l : List Card) (c : Card) (j : Nat) (h : j < (distinct c.owners).length) : cntP l c (j + 1) = cntP l c j + (if inB ((distinct c.owners).getD j ByteArray.empty) (uids l) = true then 1 else 0) := by
  unfold cntP
  rw [take_succ_own _ j h, List.filter_append, List.length_append]
  congr 1
  cases hb : inB ((distinct c.owners).getD j ByteArray.empty) (uids l)
  · rw [List.filter_cons_of_neg (p := fun o => inB o (uids l)) (by rw [hb]; simp)]; rfl
  · rw [List.filter_cons_of_pos (p := fun o => inB o (uids l)) (by rw [hb])]; rfl
theorem cntP_le (l : List Card) (c : Card) (j : Nat) : cntP l c j ≤ j := by
  unfold cntP
  have := List.length_filter_le (fun o => inB o (uids l)) ((distinct c.owners).take j)
  rw [List.length_take] at this
  omega
theorem cntP_end (l : List Card) (c : Card) (j : Nat) (h : (distinct c.owners).length ≤ j) : cntP l c j = waitsN l [] c := by
  unfold cntP waitsN present
  rw [List.take_of_length_le h]
  congr 1
  symm
  apply List.filter_eq_self.2
  intro o _
  rw [(inB_false o []).2 (by simp)]; rfl
def zI : Value := .int .i64 0
def WM (f : ByteArray → Option Value) (l : List Card) (i : Nat) : Prop := ∀ k, k < l.length → (f (gc l k).uid).getD zI = .int .i64 (if k < i then (waitsN l [] (gc l k) : Int) else 0)
def WM2 (f : ByteArray → Option Value) (l : List Card) (i j : Nat) : Prop := (∀ k, k < l.length → k ≠ i → (f (gc l k).uid).getD zI = .int .i64 (if k < i then (waitsN l [] (gc l k) : Int) else 0)) ∧ (f (gc l i).uid).getD zI = .int .i64 (cntP l (gc l i) j)
theorem WM.into {f : ByteArray → Option Value} {l : List Card} {i : Nat} (h : WM f l i) (hi : i < l.length) : WM2 f l i 0 :=
  ⟨fun k hk _ => h k hk, by rw [h i hi, if_neg (by omega), cntP_zero]; rfl⟩
theorem WM2.out {f : ByteArray → Option Value} {l : List Card} {i j : Nat} (h : WM2 f l i j) (hj : (distinct (gc l i).owners).length ≤ j) : WM f l (i + 1) := fun k hk => by
  by_cases e : k = i
  · subst e; rw [h.2, if_pos (by omega), cntP_end _ _ _ hj]
  · rw [h.1 k hk e]
    by_cases h1 : k < i
    · rw [if_pos h1, if_pos (by omega)]
    · rw [if_neg h1, if_neg (by omega)]
theorem WM2.stay {f : ByteArray → Option Value} {l : List Card} {i j : Nat} (h : WM2 f l i j) (hj : j < (distinct (gc l i).owners).length) (hin : inB ((distinct (gc l i).owners).getD j ByteArray.empty) (uids l) = false) : WM2 f l i (j + 1) :=
  ⟨h.1, by rw [h.2, cntP_succ l _ j hj, hin, if_neg (by simp)]; rfl⟩
theorem gc_ne {l : List Card} (hnd : (uids l).Nodup) {k i : Nat} (hk : k < l.length) (hi : i < l.length) (e : k ≠ i) : (gc l k).uid ≠ (gc l i).uid := by
  intro h
  have e1 : (uids l)[k]'(by simpa [uids] using hk) = (uids l)[i]'(by simpa [uids] using hi) := by
    simpa [uids, gc, List.getD, hk, hi] using h
  rcases Nat.lt_trichotomy k i with h1 | h1 | h1
  · exact List.pairwise_iff_getElem.1 hnd k i _ _ h1 e1
  · exact e h1
  · exact List.pairwise_iff_getElem.1 hnd i k _ _ h1 e1.symm
theorem WM2.more {f : ByteArray → Option Value} {l : List Card} {i j : Nat} (h : WM2 f l i j) (hnd : (uids l).Nodup) (hi : i < l.length) (hj : j < (distinct (gc l i).owners).length) (hin : inB ((distinct (gc l i).owners).getD j ByteArray.empty) (uids l) = true) :
    WM2 (upd f (gc l i).uid (some (.int .i64 ((cntP l (gc l i) j : Int) + 1)))) l i (j + 1) := by
  refine ⟨fun k hk e => ?_, ?_⟩
  · rw [← h.1 k hk e]; unfold upd; rw [if_neg (gc_ne hnd hk hi e)]
  · unfold upd; rw [if_pos rfl, cntP_succ l _ j hj, hin, if_pos rfl]; rfl
theorem SlAt.tail {w : World} {g off n cap : Nat} {s : ByteArray} {Q : List ByteArray} (h : SlAt w (.slice (some ⟨g, off, none⟩) n cap) (s :: Q)) : n = Q.length + 1 ∧ 1 ≤ cap ∧ w.cell? ⟨g, off, none⟩ = some (.string s) ∧ SlAt w (.slice (some ⟨g, off + 1, none⟩) Q.length (cap - 1)) Q := by
  rcases h with ⟨h, _⟩ | ⟨g', off', cap', cur, h1, hg, h2, h3, h4, h5⟩
  · cases h
  · injection h1 with h1 h6 h7
    injection h1 with h1
    injection h1 with h1 h8 _
    subst h1 h8 h6 h7
    have hl : (s :: Q).length = Q.length + 1 := rfl
    refine ⟨rfl, by omega, ?_, .inr ⟨g, off + 1, cap - 1, cur, rfl, hg, by omega, by omega, by omega, fun i hi => ?_⟩⟩
    · rw [cell_of_row _ _ _ _ _ _ hg]
      have := h5 0 (by omega)
      simpa using this
    · have := h5 (i + 1) (by omega)
      rw [show off + 1 + i = off + (i + 1) from by omega, this]; rfl
theorem SlAt.addr {w : World} {a : Option Addr} {n cap : Nat} {l : List ByteArray} (h : SlAt w (.slice a n cap) l) (hn : 0 < n) : ∃ g off, a = some ⟨g, off, none⟩ := by
  rcases h with ⟨h, _⟩ | ⟨g, off, cap', cur, h1, _⟩
  · injection h with _ h _; omega
  · injection h1 with h1; exact ⟨g, off, h1⟩
theorem sort_any (v : Value) (l : List ByteArray) (hl : l.length ≤ 1000) (w : World) (h : SlAt w v l) :
    Calls Try.prog 18 #[v] w fun e w' => e = .returned (.tuple #[]) ∧ ∃ l', l'.Perm l ∧ StrsAt w' v l' ∧ ∃ ls, Chg ls w w' ∧ ∀ k ∈ ls, v.ownBlock = some k := by
  rcases h with ⟨rfl, rfl⟩ | ⟨g, off, cap, cur, rfl, hg, h2, h3, h4, h5⟩
  · refine (Try.slices_Sort_string_none none 0 w).mono ?_
    rintro e w' ⟨rfl, rfl⟩
    exact ⟨rfl, [], List.Perm.refl _, .inl ⟨none, 0, rfl, rfl⟩, [], Chg.refl _ _, by simp⟩
  · have hglt := (Array.getElem?_eq_some_iff.1 hg).1
    have hH : Holds encStr w g off (bytesOf l).toArray := fun j hj => by
      have hj' : j < l.length := by simpa [bytesOf] using hj
      refine ⟨?_, frozen_of_row w g _ cur 9 hg⟩
      rw [cell_of_row _ _ _ _ _ _ hg, h5 j hj']
      simp [bytesOf, List.getD, hj', encStr_toList]
    have hc := Try.slices_Sort_string g off cap (bytesOf l) w hH hglt (by rw [bytesOf_length]; omega)
    rw [bytesOf_length] at hc
    refine hc.mono ?_
    rintro e w' ⟨rfl, n, os, rfl⟩
    have hsl : (sortS (bytesOf l)).length = l.length := by rw [sortS_length, bytesOf_length]
    have hgr : World.grownBy w (grow (putRow encStr (Sort.ahead w n) g off ((bytesOf l).mergeSort fun x y => decide (x ≤ y)).toArray) os) (some g) :=
      ⟨rfl, rfl, rfl, by simp [putRow, mapBlock, Sort.ahead, grow], fun k hk hne => by
        rw [heap_grow_old _ _ (by simpa [putRow, mapBlock, Sort.ahead] using hk)]
        have : g ≠ k := fun e => hne (by rw [e])
        simp [putRow, mapBlock, Sort.ahead, Array.getElem?_modify, this]⟩
    have hH' : Holds encStr (Sort.ahead w n) g off (bytesOf l).toArray := hH
    refine ⟨rfl, (sortS (bytesOf l)).map ba, ?_, .inr ⟨g, off, cap, by rw [List.length_map, hsl], by rw [List.length_map, hsl]; exact h2, h3, ?_, fun i hi => ?_⟩, [g], ?_, fun k hk => by simp at hk; subst hk; rfl⟩
    · have := (sortS_perm (bytesOf l)).map ba
      have e : (bytesOf l).map ba = l := by
        unfold bytesOf; rw [List.map_map]
        exact List.map_id'' (fun s => ba_data s) l
      rw [e] at this; exact this
    · exact Nat.lt_of_lt_of_le hglt hgr.size
    · rw [List.length_map, hsl] at hi
      rw [cell?_grow _ _ _ (by simpa [putRow, mapBlock, Sort.ahead] using hglt)]
      have := cell?_putRow encStr (Sort.ahead w n) g off (bytesOf l).toArray (sortS (bytesOf l)).toArray hH' (by simp [sortS_length]) i (by simpa [hsl] using hi)
      unfold sortS at this ⊢
      rw [this]
      have hi2 : i < ((bytesOf l).mergeSort fun x y => decide (x ≤ y)).length := by rw [show ((bytesOf l).mergeSort fun x y => decide (x ≤ y)) = sortS (bytesOf l) from rfl]; omega
      simp [List.getD, List.getElem?_eq_getElem hi2, encStr_ba]
    · exact (Chg.refl [g] w).grown hgr (fun k e => by cases e; simp)

theorem GraphAt.chg {w w' : World} {m1 m2 : Nat} {l : List Card} (h : GraphAt w m1 m2 l) (hc : Chg [] w w') : GraphAt w' m1 m2 l := by
  obtain ⟨⟨c, f, h1, h2⟩, c', f', h3, h4⟩ := h
  exact ⟨⟨c, f, h1.chg hc (by simp), h2⟩, c', f', h3.chg hc (by simp), fun s => (h4 s).chg hc (fun _ _ _ _ _ => by simp)⟩
theorem GraphAt.there {w : World} {m1 m2 : Nat} {l : List Card} (h : GraphAt w m1 m2 l) (s : ByteArray) (hs : s.size ≤ 9223372036854775807) : ∃ v, (Instr.lookup 37 (.map (some m1)) (.string s) true).run Try.prog w = .ok (.tuple #[v, .bool (inB s (uids l))]) w := by
  obtain ⟨⟨c, f, h1, h2⟩, _⟩ := h
  have := h1.look_ok Try.underlying37 zero3 s hs
  rw [h2] at this
  exact ⟨_, this⟩
theorem StrsAt.chgM {w w' : World} {v : Value} {l : List ByteArray} {m c : Nat} {f : ByteArray → Option Value} (h : StrsAt w v l) (hc : Chg [m] w w') (hm : FM w m c f) (hl : 0 < l.length) : StrsAt w' v l := by
  refine h.chg hc (fun b off n cap e hb => ?_)
  simp at hb
  rcases h with ⟨a, cap', rfl, rfl⟩ | ⟨b', off', cap', rfl, _, _, _, h4⟩
  · simp at hl
  · injection e with e _ _
    injection e with e
    injection e with e
    obtain ⟨es, cl, hh⟩ := hm.isMap
    have := h4 0 hl
    rw [e, hb] at this
    simp [World.cell?, hh] at this
theorem FM.grown {w w' : World} {m c : Nat} {f : ByteArray → Option Value} {v : Value} {l : List ByteArray} (h : FM w m c f) (hg : w.grownBy w' v.ownBlock) (hs : SlAt w v l) : FM w' m c f := by
  obtain ⟨es, cl, hh⟩ := h.isMap
  cases hb : v.ownBlock with
  | none => exact h.chg (l := []) ((Chg.refl [] w).grown hg (fun k e => by rw [hb] at e; cases e)) (by simp)
  | some g =>
    refine h.chg (l := [g]) ((Chg.refl [g] w).grown hg (fun k e => by rw [hb] at e; cases e; simp)) (fun hm => ?_)
    simp at hm
    obtain ⟨cur, hc⟩ := hs.cells hb
    rw [← hm, hh] at hc; cases hc
theorem Lies.above {w : World} {v v' : Value} {n : Nat} (h : Lies w v v') (hn : n ≤ w.heap.size) (hv : ∀ k, v.ownBlock = some k → n ≤ k) : ∀ k, v'.ownBlock = some k → n ≤ k := by
  intro k hk
  rcases h with h | h | ⟨g, h, h2⟩
  · exact hv k (h ▸ hk)
  · rw [h] at hk; cases hk
  · rw [h] at hk; cases hk; omega
def G1 (B : World) (m3 : Nat) (l : List Card) (vi vq : Value) (wr : World) : Prop := ∃ i : Nat, vi = .int .i64 i ∧ i ≤ l.length ∧ Chg [m3] B wr ∧ (∃ c f, FM wr m3 c f ∧ c ≤ 4 * i ∧ WM f l i) ∧ SlAt wr vq (start0 l i) ∧ ∀ k, vq.ownBlock = some k → B.heap.size ≤ k
def G2 (B W3 : World) (m3 : Nat) (l : List Card) (i : Nat) (v : Value) (wr : World) : Prop := ∃ j : Nat, v = .int .i64 j ∧ j ≤ (distinct (gc l i).owners).length ∧ Chg [m3] W3 wr ∧ ∃ c f, FM wr m3 c f ∧ c ≤ 4 * i + j ∧ WM2 f l i j
def lenOf : Value → Nat
  | .slice _ n _ => n
  | _ => 0
theorem SlAt.tail1 {w : World} {g off n : Nat} {s : ByteArray} {Q : List ByteArray} (h : SlAt w (.slice (some ⟨g, off, none⟩) n 1) (s :: Q)) : SlAt w (.slice (some ⟨g, off, none⟩) Q.length 0) Q := by
  rcases h with ⟨h, _⟩ | ⟨g', off', cap', cur, h1, hg, h2, h3, h4, h5⟩
  · cases h
  · injection h1 with h1 h6 h7
    injection h1 with h1
    injection h1 with h1 h8 _
    subst h1 h8 h6 h7
    have hl : (s :: Q).length = Q.length + 1 := rfl
    exact .inr ⟨g, off, 0, cur, rfl, hg, by omega, by omega, by omega, fun i hi => by omega⟩
theorem CardsAt.small {w : World} {v : Value} {l : List Card} (h : CardsAt w v l) : ∀ c ∈ l, c.uid.size ≤ 9223372036854775807 ∧ Small c.owners := by
  intro c hc
  rcases h with ⟨_, _, _, rfl⟩ | ⟨b, off, cap, _, _, _, _, h4⟩
  · simp at hc
  · obtain ⟨i, hi, rfl⟩ := List.getElem_of_mem hc
    obtain ⟨v, _, _, _, h1, h2, _⟩ := h4 i hi
    have e : gc l i = l[i] := by simp [gc, List.getD, hi]
    rw [e] at h1 h2
    exact ⟨h1, h2⟩
structure Two (w B : World) (vq : Value) (Q : List ByteArray) (vo : Value) (P : List ByteArray) : Prop where
  q : SlAt w vq Q
  o : SlAt w vo P
  qa : ∀ k, vq.ownBlock = some k → B.heap.size ≤ k
  oa : ∀ k, vo.ownBlock = some k → B.heap.size ≤ k
  ap : ∀ k, vq.ownBlock = some k → vo.ownBlock ≠ some k
theorem Two.swap {w B : World} {vq vo : Value} {Q P : List ByteArray} (h : Two w B vq Q vo P) : Two w B vo P vq Q := ⟨h.o, h.q, h.oa, h.qa, fun k hk h2 => h.ap k h2 hk⟩
theorem Two.chg {w w' B : World} {vq vo : Value} {Q P : List ByteArray} {ls : List Nat} (h : Two w B vq Q vo P) (hc : Chg ls w w') (hn : ∀ k ∈ ls, k < B.heap.size) : Two w' B vq Q vo P :=
  ⟨h.q.chg hc (fun k hk hm => by have := h.qa k hk; have := hn k hm; omega), h.o.chg hc (fun k hk hm => by have := h.oa k hk; have := hn k hm; omega), h.qa, h.oa, h.ap⟩
theorem Two.push {w B : World} {vq vo : Value} {Q P : List ByteArray} (h : Two w B vq Q vo P) (hb : B.heap.size ≤ w.heap.size) (hQ : Q.length ≤ 1000) (x : ByteArray) (a : Addr) (hx : w.cell? a = some (.string x)) :
    ∃ aq cq a' c' w', vq = .slice aq Q.length cq ∧ (appWr #[23, 23] 23 #[vq, .slice (some a) 1 1]).run Try.prog w = .ok (.slice a' (Q.length + 1) c') w' ∧ Two w' B (.slice a' (Q.length + 1) c') (Q ++ [x]) vo P ∧ w.grownBy w' vq.ownBlock := by
  obtain ⟨v', w', r, s, g, L⟩ := run_sl w 23 vq Q h.q hQ x a hx
  obtain ⟨aq, cq, e⟩ := h.q.shape
  obtain ⟨a', c', e'⟩ := s.shape
  subst e'
  rw [List.length_append, List.length_singleton] at r s L
  refine ⟨aq, cq, a', c', w', e, r, ⟨s, ?_, L.above hb h.qa, h.oa, fun k hk h2 => ?_⟩, g⟩
  · cases hbk : vq.ownBlock with
    | none => exact h.o.chg ((Chg.refl [] w).grown g (fun k e => by rw [hbk] at e; cases e)) (by simp)
    | some q => exact h.o.chg ((Chg.refl [q] w).grown g (fun k e => by rw [hbk] at e; cases e; simp)) (fun k hk hm => by simp at hm; subst hm; exact h.ap k hbk hk)
  · rcases L with L | L | ⟨q, L, hq⟩
    · rw [L] at hk; exact h.ap k hk h2
    · rw [L] at hk; cases hk
    · rw [L] at hk; cases hk; have := h.o.lt _ h2; omega
theorem Two.chgB {w w' B : World} {m3 : Nat} {vq vo : Value} {Q P : List ByteArray} (h : Two w B vq Q vo P) (hc : Chg [m3] B w) (g : w.grownBy w' vq.ownBlock) : Chg [m3] B w' := hc.grown g (fun k hk => .inr (h.qa k hk))
def WM3 (f : ByteArray → Option Value) (l : List Card) (P : List ByteArray) : Prop := ∀ c ∈ l, (f c.uid).getD zI = .int .i64 (waitsN l P c)
def WM4 (f : ByteArray → Option Value) (l : List Card) (P us : List ByteArray) (j : Nat) : Prop := ∀ c ∈ l, (f c.uid).getD zI = .int .i64 ((waitsN l P c : Int) - (if inB c.uid (us.take j) = true then 1 else 0))
theorem WM.three {f : ByteArray → Option Value} {l : List Card} (h : WM f l l.length) : WM3 f l [] := fun c hc => by
  obtain ⟨i, hi, rfl⟩ := List.getElem_of_mem hc
  have e : gc l i = l[i] := by simp [gc, List.getD, hi]
  have := h i hi
  rw [if_pos hi, e] at this
  exact this
theorem WM3.four {f : ByteArray → Option Value} {l : List Card} {P : List ByteArray} (h : WM3 f l P) (us : List ByteArray) : WM4 f l P us 0 := fun c hc => by
  rw [h c hc, if_neg (by simp [inB_iff])]; simp
theorem WM4.three {f : ByteArray → Option Value} {l : List Card} {P : List ByteArray} {u : ByteArray} {j : Nat} (h : WM4 f l P (ownedBy l u) j) (hj : (ownedBy l u).length ≤ j) (hnd : (uids l).Nodup) (hx : u ∉ P) (hu : u ∈ uids l) : WM3 f l (P ++ [u]) := fun c hc => by
  rw [h c hc, List.take_of_length_le hj, waitsN_pop l P u c hx hu]
  have : inB c.uid (ownedBy l u) = inB u c.owners := by
    rw [Bool.eq_iff_iff, inB_iff, inB_iff, mem_ownedBy]
    constructor
    · rintro ⟨d, hd, h1, h2⟩; rw [← uid_inj hnd hd hc h2]; exact h1
    · intro h1; exact ⟨c, hc, h1, rfl⟩
  rw [this]
  split <;> simp
theorem WM4.step {f : ByteArray → Option Value} {l : List Card} {P us : List ByteArray} {j : Nat} (h : WM4 f l P us j) (hj : j < us.length) (hun : us.Nodup) (c : Card) (hc : c ∈ l) (he : us.getD j ByteArray.empty = c.uid) (hnd : (uids l).Nodup) :
    (f c.uid).getD zI = .int .i64 (waitsN l P c) ∧ WM4 (upd f c.uid (some (.int .i64 ((waitsN l P c : Int) - 1)))) l P us (j + 1) := by
  have hnot : inB c.uid (us.take j) = false := by
    rw [inB_false]
    intro hm
    obtain ⟨i, hi, e⟩ := List.getElem_of_mem hm
    have hi' : i < j := by simp at hi; omega
    rw [List.getElem_take] at e
    have e2 : us[i] = us[j] := by rw [e, ← he]; simp [List.getD, hj]
    exact List.pairwise_iff_getElem.1 hun i j (by omega) hj hi' e2
  have h0 := h c hc
  rw [hnot] at h0
  refine ⟨by simpa using h0, fun d hd => ?_⟩
  unfold upd
  by_cases e : d.uid = c.uid
  · obtain rfl := uid_inj hnd hd hc e
    rw [if_pos rfl, if_pos ((inB_iff _ _).2 (by rw [take_succ_own _ _ hj, he]; simp))]; rfl
  · rw [if_neg e, h d hd]
    have : inB d.uid (us.take (j + 1)) = inB d.uid (us.take j) := by
      rw [Bool.eq_iff_iff, inB_iff, inB_iff, take_succ_own _ _ hj, List.mem_append, List.mem_singleton, he]
      exact ⟨fun h => h.resolve_right e, .inl⟩
    rw [this]
theorem freed_succ (l : List Card) (P us : List ByteArray) (j : Nat) (h : j < us.length) (s : ByteArray) (hs : us.getD j ByteArray.empty = s) :
    (Free l P s → freed l P (us.take (j + 1)) = freed l P (us.take j) ++ [s]) ∧ (¬ Free l P s → freed l P (us.take (j + 1)) = freed l P (us.take j)) := by
  unfold freed
  rw [take_succ_own _ _ h, hs, List.filter_append]
  constructor
  · intro hf
    rw [List.filter_cons_of_pos (by rw [@decide_eq_true_iff _ (Classical.propDecidable _)]; exact hf)]; rfl
  · intro hf
    rw [List.filter_cons_of_neg (by rw [@decide_eq_true_iff _ (Classical.propDecidable _)]; exact hf)]; simp
theorem freed_length (l : List Card) (P us : List ByteArray) : (freed l P us).length ≤ us.length := List.length_filter_le _ _
theorem free_iff {l : List Card} {P : List ByteArray} {c : Card} {u : ByteArray} (hnd : (uids l).Nodup) (hc : c ∈ l) (hu : u ∈ c.owners) : Free l P c.uid ↔ waitsN l P c = 0 := by
  rw [waitsN_zero]
  constructor
  · rintro ⟨d, hd, e, _, h⟩; obtain rfl := uid_inj hnd hd hc e; exact h
  · intro h; exact ⟨c, hc, rfl, List.ne_nil_of_mem hu, h⟩
def G3 (B : World) (m3 : Nat) (l : List Card) (vq vo : Value) (wr : World) : Prop := ∃ P Q, GInv l P Q ∧ Chg [m3] B wr ∧ (∃ c f, FM wr m3 c f ∧ c ≤ 240 + 60 * P.length ∧ WM3 f l P) ∧ Two wr B vq Q vo P
def G4 (B : World) (m3 : Nat) (l : List Card) (P Q : List ByteArray) (u : ByteArray) (vo : Value) (v vq : Value) (wr : World) : Prop := ∃ j : Nat, v = .int .i64 j ∧ j ≤ (ownedBy l u).length ∧ Chg [m3] B wr ∧
  (∃ c f, FM wr m3 c f ∧ c ≤ 240 + 60 * P.length + j ∧ WM4 f l P (ownedBy l u) j) ∧ Two wr B vq (Q ++ freed l (P ++ [u]) ((ownedBy l u).take j)) vo (P ++ [u])
set_option maxHeartbeats 4000000 in
theorem garbage_any (a : Option Addr) (cap : Nat) (l : List Card) (w : World) (h : CardsAt w (.slice a l.length cap) l) :
    Calls Try.prog 6 #[.slice a l.length cap] w fun e w' => Chg [] w w' ∧ ((checkE l ≠ 0 ∧ e = .returned (.tuple #[.slice none 0 0, .int .i64 (checkE l)])) ∨
      (checkE l = 0 ∧ ∃ v' P P', e = .returned (.tuple #[v', .int .i64 0]) ∧ StrsAt w' v' P' ∧ P'.Perm P ∧ GInv l P [])) := by
  have C8 := Lib.hid (check8_any a cap l w h)
  by_cases hck : checkE l = 0
  · have hg := (good_iff l).1 hck
    have CO : Hid (∀ w', Chg [] w w' → Calls Try.prog 14 #[.slice a l.length cap] w' fun e w2 => ∃ m1 m2, e = .returned (.agg #[.map (some m1), .map (some m2)]) ∧ GraphAt w2 m1 m2 l ∧ Chg [] w' w2) := fun w' hc => of_any a cap l w' (h.chg hc) hg.len hg.uids hg.four
    have HA := Lib.hid h
    have HG := Lib.hid hg
    have HCK := Lib.hid hck
    have hlen := hg.len
    rw [hck] at C8
    clear h hg hck
    go_enter Try.func6, Try.ntmps6
    go_wp2_with fail
    refine C8.out.mono ?_
    rintro e w1 ⟨rfl, hc1⟩
    have CO1 := Lib.hid (CO.out w1 hc1)
    have HC1 := Lib.hid hc1
    clear hc1 CO C8
    go_wp2_with fail
    refine CO1.out.mono ?_
    rintro e w2 ⟨m1, m2, rfl, hgr, hc2⟩
    have HGR := Lib.hid hgr
    have HC2 := Lib.hid hc2
    clear hgr hc2 CO1
    obtain ⟨B, hB⟩ : ∃ B, (w2.alloc (.cells #[.map (some m1), .map (some m2)] 41)).alloc (.map #[] 0) = B := ⟨_, rfl⟩
    have hBs : B.heap.size = w2.heap.size + 2 := by rw [← hB]; simp
    have hcB : Chg [] w2 B := by rw [← hB]; exact ((Chg.refl [] w2).alloc _).alloc _
    have hfB : FM B (w2.heap.size + 1) 0 (fun _ => none) := by
      have := FM.made (w2.alloc (.cells #[.map (some m1), .map (some m2)] 41)); rw [hB, World.size_alloc] at this; exact this
    have hbx : B.heap[w2.heap.size]? = some (.cells #[.map (some m1), .map (some m2)] 41 (0, 0)) := by
      rw [← hB]; exact (Below.heap_alloc _ _ _ (by simp)).trans (World.alloc_heap_new w2 _)
    have H0 : Hid (G1 B (w2.heap.size + 1) l (.int .i64 0) (.slice none 0 0) B) := ⟨0, rfl, Nat.zero_le _, Chg.refl _ _, ⟨0, _, hfB, Nat.le_refl _, fun k hk => rfl⟩, SlAt.nil _, fun k hk => by simp [Value.ownBlock] at hk⟩
    have HCB := Lib.hid hcB
    have HBX := Lib.hid hbx
    have HB := Lib.hid hB
    clear hcB hfB hbx
    go_wp2_with fail
    clear hB
    go_loopw [28, 7] (fun vi vq wr => G1 B (w2.heap.size + 1) l vi vq wr) (fun vi _ _ => l.length - (intOf vi).toNat)
    case atStart => exact H0.out
    case round =>
      clear H0
      obtain ⟨i, rfl, hi, hch, ⟨c1, f1, hf1, hcc1, hwm⟩, hsl, hbk⟩ := hrel
      have hm3 : w2.heap.size + 1 < B.heap.size := by omega
      have HX : Hid (∀ X, Chg [w2.heap.size + 1] B X → GraphAt X m1 m2 l ∧ X.cell? ⟨w2.heap.size, 0, none⟩ = some (.map (some m1)) ∧ X.cell? ⟨w2.heap.size, 1, none⟩ = some (.map (some m2))) := fun X hX => by
        refine ⟨HGR.out.chg (HCB.out.trans' hX (fun x hx => by simp at hx; subst hx; exact .inr (by omega))), ?_, ?_⟩
        · have := hX.heap HBX.out (by simp); rw [cell_of_row _ _ _ _ _ _ this]; rfl
        · have := hX.heap HBX.out (by simp); rw [cell_of_row _ _ _ _ _ _ this]; rfl
      have HWX : Hid (∀ X, Chg [w2.heap.size + 1] B X → Chg [] w X) := fun X hX => (HC1.out.trans (HC2.out.trans HCB.out)).trans' hX (fun x hx => by
        simp at hx; subst hx
        have h1 := HC1.out.size
        have h2 := HC2.out.size
        exact .inr (by omega))
      obtain ⟨_, c6, f6, hm61, hm62⟩ := HGR.out
      have HY : Hid (∀ X, Chg [w2.heap.size + 1] B X → FM X m2 c6 f6 ∧ ∀ s, StrsAt X ((f6 s).getD nilS) (ownedBy l s)) := fun X hX => by
        have hc := HCB.out.trans' hX (fun x hx => by simp at hx; subst hx; exact .inr (by omega))
        exact ⟨hm61.chg hc (by simp), fun s => (hm62 s).chg hc (fun _ _ _ _ _ => by simp)⟩
      clear hm61 hm62
      by_cases hlt : i < l.length
      · rcases HA.out with ⟨a', cap', h1, h2⟩ | ⟨b, off, cap', h1, hl1, hl2, hl3, hat⟩
        · subst h2; simp at hlt
        · injection h1 with h1 h2 h3
          subst h1 h3
          obtain ⟨v, k1, k2, hs, hu, hso, hol⟩ := hat i hlt
          obtain ⟨a2, cap2, rfl⟩ := hs.shape
          have hcw := HWX.out wr hch
          have k1' := hcw.cell k1 (by simp)
          have k2' := hcw.cell k2 (by simp)
          have ho4 := HG.out.four _ (gc_mem l i hlt)
          obtain ⟨W, hW⟩ : ∃ W, wr.alloc (.cells #[.string (gc l i).uid, .slice a2 (gc l i).owners.length cap2] 31) = W := ⟨_, rfl⟩
          have wO : Chg [] wr W := by rw [← hW]; exact (Chg.refl [] wr).alloc _
          have hxb : W.heap[wr.heap.size]? = some (.cells #[.string (gc l i).uid, .slice a2 (gc l i).owners.length cap2] 31 (0, 0)) := by rw [← hW]; exact World.alloc_heap_new wr _
          have z1 : W.cell? ⟨wr.heap.size, 0, none⟩ = some (.string (gc l i).uid) := by rw [cell_of_row _ _ _ _ _ _ hxb]; rfl
          have z2 : W.cell? ⟨wr.heap.size, 1, none⟩ = some (.slice a2 (gc l i).owners.length cap2) := by rw [cell_of_row _ _ _ _ _ _ hxb]; rfl
          have hsW := hs.chg (hcw.trans wO) (fun _ _ _ _ _ => by simp)
          have CV := Lib.hid (values_any a2 (gc l i).owners.length cap2 W)
          have CS := Lib.hid (sorted_any _ (gc l i).owners (by omega) W hsW)
          have HF1 := Lib.hid (hf1.chg wO (by simp))
          have HWM := Lib.hid hwm
          have HSL := Lib.hid (hsl.chg wO (by simp))
          have HBK := Lib.hid hbk
          have HCH := Lib.hid (show Chg [w2.heap.size + 1] B W from hch.trans (wO.mono (by simp)))
          have HSO := Lib.hid hso
          have HXB := Lib.hid hxb
          have hch_size := hch.size
          clear hs hso hat k1 k2 hcw wO hxb hsW hf1 hwm hsl hbk hch
          go_wp2_with fail
          refine CV.out.mono ?_
          rintro e w' ⟨rfl, rfl⟩
          go_wp2_with fail
          refine CS.out.mono ?_
          rintro e w3 ⟨v3, rfl, hrow, hb3⟩
          have CC := Lib.hid (compact_any W.heap.size v3 (gc l i).owners (by omega) w3 hb3.size hrow)
          have HB3 := Lib.hid hb3
          clear hrow hb3 CV CS
          go_wp2_with fail
          refine CC.out.mono ?_
          rintro e w4 ⟨v4, rfl, hs4, hb4⟩
          obtain ⟨a4, cap4, rfl⟩ := hs4.shape
          have hW4 : Chg [] W w4 := Chg.of_below (HB3.out.trans hb4)
          have HS4 := Lib.hid hs4
          have HXB4 := Lib.hid (hW4.heap HXB.out (by simp))
          have HCH4 := Lib.hid (show Chg [w2.heap.size + 1] B w4 from HCH.out.trans (hW4.mono (by simp)))
          have HSL4 := Lib.hid (HSL.out.chg hW4 (by simp))
          have H1 : Hid (G2 B w4 (w2.heap.size + 1) l i (.int .i64 0) w4) := ⟨0, rfl, Nat.zero_le _, Chg.refl _ _, c1, f1, HF1.out.chg hW4 (by simp), by omega, HWM.out.into hlt⟩
          have HF4 := Lib.hid (HF1.out.chg hW4 (by simp))
          clear hs4 hb4 hW4 CC HF1 HWM z1 z2 k1' k2' hW HB3 HCH HXB HSL
          go_wp2_with fail
          obtain ⟨ds, hds⟩ : ∃ ds, distinct (gc l i).owners = ds := ⟨_, rfl⟩
          have hdl : ds.length ≤ 4 := by rw [← hds]; exact Nat.le_trans (distinct_length _) ho4
          have HDSO : Hid (Small ds) := fun s hs => HSO.out s ((mem_distinct _ s).1 (by rw [hds]; exact hs))
          have HDS := Lib.hid hds
          have hxlt : wr.heap.size < w4.heap.size := (Array.getElem?_eq_some_iff.1 HXB4.out).1
          have hwr : w2.heap.size + 2 ≤ wr.heap.size := by omega
          rw [hds]
          clear hds
          obtain ⟨wo, rfl⟩ : ∃ wo : World, wo = wr := ⟨_, rfl⟩
          go_loopw [38] (fun v wr => G2 B w4 (w2.heap.size + 1) l i v wr) (fun v _ => ds.length - (intOf v).toNat)
          case atStart => exact H1.out
          case round =>
            clear H1
            obtain ⟨j, rfl, hj, hcq, cq, fq, hfq, hcqn, hwq⟩ := hrel
            rw [HDS.out] at hj
            have hXB := hcq.heap HXB4.out (by simp; omega)
            have z1 : wr.cell? ⟨wo.heap.size, 0, none⟩ = some (.string (gc l i).uid) := by rw [cell_of_row _ _ _ _ _ _ hXB]; rfl
            have z2 : wr.cell? ⟨wo.heap.size, 1, none⟩ = some (.slice a2 (gc l i).owners.length cap2) := by rw [cell_of_row _ _ _ _ _ _ hXB]; rfl
            have HCHQ := Lib.hid (HCH4.out.trans hcq)
            obtain ⟨hgq, q1, q2⟩ := HX.out _ HCHQ.out
            by_cases hjl : j < ds.length
            · have hs4q : StrsAt wr (.slice a4 ds.length cap4) ds := by
                have := HS4.out
                rw [HDS.out] at this
                exact this.chgM hcq HF4.out (by omega)
              obtain ⟨b5, off5, rfl, _, hcell⟩ := strs_cell hs4q (by omega)
              have hcj := hcell j hjl
              have hoz := HDSO.out.at j
              have hjd : j < (distinct (gc l i).owners).length := by rw [HDS.out]; exact hjl
              obtain ⟨o, ho⟩ : ∃ o, ds.getD j ByteArray.empty = o := ⟨_, rfl⟩
              rw [ho] at hcj hoz
              have ho2 : (distinct (gc l i).owners).getD j ByteArray.empty = o := by rw [HDS.out]; exact ho
              obtain ⟨vt, hlt1⟩ := hgq.there o hoz
              have HGQ := Lib.hid hgq
              have HCQ := Lib.hid hcq
              have HHO := Lib.hid ho2
              clear hs4q hcell ho ho2 hgq hXB hcq
              cases hin : inB o (uids l)
              · rw [hin] at hlt1
                have HIN := Lib.hid hin
                have HFQ := Lib.hid hfq
                have HWQ := Lib.hid hwq
                clear hin hfq hwq
                go_wp2_with fail
                go_roundw
                case rel =>
                  exact ⟨j + 1, by go_num, by omega, HCQ.out, cq, fq, HFQ.out, by omega, HWQ.out.stay hjd (by rw [HHO.out]; exact HIN.out)⟩
                case measure => simp [intOf]; omega
              · rw [hin] at hlt1
                have hlw := hfq.look Try.underlying37 zero3 (gc l i).uid hu
                have e5 := hwq.2
                unfold zI at e5
                rw [e5] at hlw
                have hcn := cntP_le l (gc l i) j
                obtain ⟨n, hn⟩ : ∃ n, cntP l (gc l i) j = n := ⟨_, rfl⟩
                rw [hn] at hlw hcn
                obtain ⟨w5, r5, f5, hc5, _⟩ := hfq.set Try.underlying37 (by omega) (gc l i).uid hu (.int .i64 ((n : Int) + 1))
                have hwm5 := hwq.more HG.out.uids hlt hjd (by rw [HHO.out]; exact hin)
                rw [hn] at hwm5
                have HWM5 := Lib.hid hwm5
                have HC5 := Lib.hid (HCQ.out.trans hc5)
                have HF5 := Lib.hid f5
                have hn1 : (n : Int) + 1 ≤ 1000 := by omega
                clear hin hfq hwq hwm5 hc5 f5 hn e5
                go_wp2_with fail
                refine ⟨⟨j + 1, by go_num, by rw [HDS.out]; omega, HC5.out, _, _, HF5.out, by split <;> omega, HWM5.out⟩, ?_⟩
                simp [intOf]; omega
            · have hwm := hwq.out (by rw [HDS.out]; omega)
              have e5 := hwm i hlt
              rw [if_pos (by omega)] at e5
              have hlw := hfq.look Try.underlying37 zero3 (gc l i).uid hu
              unfold zI at e5
              rw [e5] at hlw
              have hst := start0_succ l i hlt
              have hsl5 := HSL4.out.chg hcq (fun k hk hm => by
                simp at hm
                have := HBK.out k hk; omega)
              have hsll := start0_length l i
              have hlen60 := HG.out.len
              have HCQ := Lib.hid hcq
              have HGQ := Lib.hid hgq
              have HWM := Lib.hid hwm
              clear hcq hgq hwq hwm e5 hXB
              by_cases hpos : 0 < (gc l i).owners.length
              · have hp1 : decide ((0 : Int) < ((gc l i).owners.length : Int)) = true := decide_eq_true (by omega)
                by_cases hz : waitsN l [] (gc l i) = 0
                · rw [hz] at hlw
                  rw [if_pos ⟨hpos, hz⟩] at hst
                  obtain ⟨wA, hwA⟩ : ∃ wA, wr.alloc (.cells #[.string (gc l i).uid] 9) = wA := ⟨_, rfl⟩
                  have hcA : Chg [] wr wA := by rw [← hwA]; exact (Chg.refl [] wr).alloc _
                  have hxA : wA.cell? ⟨wr.heap.size, 0, none⟩ = some (.string (gc l i).uid) := by rw [← hwA]; simp
                  obtain ⟨v7, w7, r7, s7, g7, L7⟩ := run_sl wA 23 _ _ (hsl5.chg hcA (by simp)) (by omega) (gc l i).uid ⟨wr.heap.size, 0, none⟩ hxA
                  obtain ⟨aq, cpq, hvq⟩ := hsl5.shape
                  have hlt5 := hsl5.lt
                  subst hvq
                  have r7' : (appWr #[23, 23] 23 #[.slice aq (start0 l i).length cpq, .slice (some ⟨wr.heap.size, 0, none⟩) 1 1]).run Try.prog wA = .ok v7 w7 := r7
                  have hbk := HBK.out
                  have hc7 : Chg [w2.heap.size + 1] B w7 := ((HCH4.out.trans HCQ.out).trans (hcA.mono (by simp))).grown g7 (fun k hk => .inr (hbk k hk))
                  have hf7 := (hfq.chg hcA (by simp)).grown g7 (hsl5.chg hcA (by simp))
                  have hab := L7.above (n := B.heap.size) (by have := HCH4.out.size; have := HCQ.out.size; have := hcA.size; omega) hbk
                  have HF7 := Lib.hid hf7
                  have HAB := Lib.hid hab
                  clear hf7 hab L7 g7 hbk hlt5
                  rw [← hst] at s7
                  have HS7 := Lib.hid s7
                  have HC7 := Lib.hid hc7
                  subst hwA
                  clear r7 s7 hc7 hcA hxA hsl5
                  go_wp2_with fail
                  refine ⟨⟨i + 1, by go_num, by omega, HC7.out, ⟨cq, fq, HF7.out, by omega, HWM.out⟩, HS7.out, HAB.out⟩, ?_⟩
                  simp [intOf]; omega
                · have hz1 : ((waitsN l [] (gc l i) : Int) == 0) = false := by simpa using hz
                  rw [if_neg (fun h => hz h.2), List.append_nil] at hst
                  rw [← hst] at hsl5
                  have HS5 := Lib.hid hsl5
                  have HFQ := Lib.hid hfq
                  clear hsl5 hfq hst
                  go_wp2_with fail
                  go_roundw
                  case rel => exact ⟨i + 1, by go_num, by omega, HCH4.out.trans HCQ.out, ⟨cq, fq, HFQ.out, by omega, HWM.out⟩, HS5.out, HBK.out⟩
                  case measure => simp [intOf]; omega
              · have hp1 : decide ((0 : Int) < ((gc l i).owners.length : Int)) = false := decide_eq_false (by omega)
                rw [if_neg (fun h => hpos h.1), List.append_nil] at hst
                rw [← hst] at hsl5
                have HS5 := Lib.hid hsl5
                have HFQ := Lib.hid hfq
                clear hsl5 hfq hst
                go_wp2_with fail
                go_roundw
                case rel => exact ⟨i + 1, by go_num, by omega, HCH4.out.trans HCQ.out, ⟨cq, fq, HFQ.out, by omega, HWM.out⟩, HS5.out, HBK.out⟩
                case measure => simp [intOf]; omega
      · have hil : i = l.length := by omega
        have hlen60 := HG.out.len
        subst hil
        have H3 : Hid (G3 B (w2.heap.size + 1) l u7 (.slice none 0 0) wr) := ⟨[], _, start0_inv l HG.out.uids, hch, ⟨c1, f1, hf1, by omega, hwm.three⟩, hsl, SlAt.nil _, hbk, fun k hk => by simp [Value.ownBlock] at hk, fun k _ hk => by simp [Value.ownBlock] at hk⟩
        clear hch hf1 hwm hsl hbk
        go_wp2_with fail
        obtain ⟨wo, rfl⟩ : ∃ wo : World, wo = wr := ⟨_, rfl⟩
        go_loopw [7, 8] (fun vq vo wr => G3 B (w2.heap.size + 1) l vq vo wr) (fun _ vo _ => 60 - lenOf vo)
        case atStart => exact H3.out
        case round =>
          clear H3
          obtain ⟨P, Q, hgi, hch, ⟨cc, f, hf, hcc, hwm⟩, htwo⟩ := hrel
          have hPQ := hgi.length HG.out.len
          cases Q with
          | nil =>
            obtain ⟨aq, cpq, rfl⟩ := htwo.q.shape
            have hso := sort_any u8 P (by omega) wr htwo.o
            have HSO := Lib.hid hso
            have HT := Lib.hid htwo
            have HCH := Lib.hid hch
            have HGI := Lib.hid hgi
            clear hso htwo hch hgi hf hwm
            go_wp2_with fail
            refine HSO.out.mono ?_
            rintro e w' ⟨rfl, P', hp, hst, ls, hls, hls'⟩
            have HP := Lib.hid hp
            have HST := Lib.hid hst
            have HLS := Lib.hid hls
            clear hp hst hls
            go_wp2_with fail
            go_ret2
            refine ⟨HWX.out _ (HCH.out.trans' HLS.out (fun x hx => .inr (HT.out.oa x (hls' x hx)))), .inr ⟨HCK.out, _, P, P', rfl, HST.out, HP.out, HGI.out⟩⟩
          | cons u Q =>
            obtain ⟨aq, cpq, rfl⟩ := htwo.q.shape
            obtain ⟨qb, qo, rfl⟩ := htwo.q.addr (by simp)
            by_cases hc1 : cpq = 1
            · subst hc1
              obtain ⟨_, hcap1, hu0, htl⟩ := htwo.q.tail
              have htl := htwo.q.tail1
              have hqb : ∀ k, (Value.slice (some ⟨qb, qo, none⟩) Q.length 0).ownBlock = some k → (Value.slice (some ⟨qb, qo, none⟩) (u :: Q).length 1).ownBlock = some k := fun k hk => hk
              have htwo1 : Two wr B (.slice (some ⟨qb, qo, none⟩) Q.length 0) Q u8 P := ⟨htl, htwo.o, fun k hk => htwo.qa k (hqb k hk), htwo.oa, fun k hk => htwo.ap k (hqb k hk)⟩
              have hgp := hgi.pop HG.out.uids
              have hn := hgi.nodup
              have huP : u ∉ P := fun hm => by
                rw [List.nodup_append] at hn
                exact hn.2.2 u hm u (by simp) rfl
              have hfu : Free l P u := (hgi.mem u).1 (by simp)
              have huu := hfu.there
              obtain ⟨cu, hcu, hcue, _⟩ := hfu
              have HPUSH : Hid (∀ W, Chg [] wr W → ∀ a, W.cell? a = some (.string u) → ∃ aq cq a' c' w', u8 = .slice aq P.length cq ∧ (appWr #[23, 23] 23 #[u8, .slice (some a) 1 1]).run Try.prog W = .ok (.slice a' (P.length + 1) c') w' ∧ Two w' B (.slice a' (P.length + 1) c') (P ++ [u]) (.slice (some ⟨qb, qo, none⟩) Q.length 0) Q ∧ W.grownBy w' u8.ownBlock) := fun W hW a ha =>
                (htwo1.chg hW (by simp)).swap.push (by have := hW.size; have := hch.size; omega) (by omega) u a ha
              obtain ⟨W, hW⟩ : ∃ W, wr.alloc (.cells #[.string u] 9) = W := ⟨_, rfl⟩
              have hcW : Chg [] wr W := by rw [← hW]; exact (Chg.refl [] wr).alloc _
              have hxW : W.cell? ⟨wr.heap.size, 0, none⟩ = some (.string u) := by rw [← hW]; simp
              obtain ⟨a8, c8, a9, c9, w5, rfl, r5, htwo5, g5⟩ := HPUSH.out W hcW _ hxW
              have hf5 := (hf.chg hcW (by simp)).grown g5 (htwo.o.chg hcW (by simp))
              have hch5 := (htwo1.chg hcW (by simp)).swap.chgB (hch.trans (hcW.mono (by simp))) g5
              have HT5 := Lib.hid htwo5.swap
              have HF5 := Lib.hid hf5
              have HCH5 := Lib.hid hch5
              have HGI := Lib.hid hgi
              have HGP := Lib.hid hgp
              have HWM := Lib.hid hwm
              have HUP := Lib.hid huP
              have HUU := Lib.hid huu
              have HCUE := Lib.hid hcue
              have HCU := Lib.hid hcu
              clear htwo htwo1 htwo5 hf hf5 hch hch5 g5 hgi hgp hwm HPUSH hn huP huu hcW hqb htl hcue hcu
              subst hW
              obtain ⟨hg5, q1, q2⟩ := HX.out _ HCH5.out
              have husz : u.size ≤ 9223372036854775807 := by rw [← HCUE.out]; exact (HA.out.small cu HCU.out).1
              obtain ⟨hf6, hst6⟩ := HY.out _ HCH5.out
              have hlk := hf6.look Try.underlying39 zero23 u husz
              obtain ⟨a6, cap6, hv6⟩ := (hst6 u).shape
              rw [hv6] at hlk
              have HST6 := Lib.hid hst6
              have HV6 := Lib.hid hv6
              have hol := ownedBy_length l u
              clear hst6 hv6
              go_wp2_with fail
              have HV6X : Hid (∀ X, Chg [w2.heap.size + 1] B X → StrsAt X (.slice a6 (ownedBy l u).length cap6) (ownedBy l u)) := fun X hX => by
                have := (HY.out X hX).2 u
                rw [HV6.out] at this
                exact this
              clear q1 q2 hu0 hxW hlk HST6 HV6
              have H4 : Hid (G4 B (w2.heap.size + 1) l P Q u (.slice a9 (P.length + 1) c9) (.int .i64 0) (.slice (some ⟨qb, qo, none⟩) Q.length (0)) w5) := ⟨0, rfl, Nat.zero_le _, HCH5.out, ⟨cc, f, HF5.out, by omega, HWM.out.four _⟩, by
                have := HT5.out
                simpa [freed] using this⟩
              obtain ⟨wx, rfl⟩ : ∃ wx : World, wx = wr := ⟨_, rfl⟩
              go_loopw [90, 7] (fun v vq wr => G4 B (w2.heap.size + 1) l P Q u (.slice a9 (P.length + 1) c9) v vq wr) (fun v _ _ => (ownedBy l u).length - (intOf v).toNat)
              case atStart => exact H4.out
              case round =>
                clear H4
                obtain ⟨j, rfl, hj, hch, ⟨cc4, f4, hf4, hcc4, hwm4⟩, htwo⟩ := hrel
                by_cases hjl : j < (ownedBy l u).length
                · obtain ⟨b5, off5, hb5, _, hcell⟩ := strs_cell (show StrsAt wr (.slice a6 (ownedBy l u).length cap6) (ownedBy l u) from HV6X.out wr hch) (by omega)
                  subst hb5
                  have hcj := hcell j hjl
                  obtain ⟨s, hs⟩ : ∃ s, (ownedBy l u).getD j ByteArray.empty = s := ⟨_, rfl⟩
                  rw [hs] at hcj
                  have hsm : s ∈ ownedBy l u := by rw [← hs]; simp only [List.getD, List.getElem?_eq_getElem hjl, Option.getD_some]; exact List.getElem_mem hjl
                  obtain ⟨cs, hcs, huo, hcse⟩ := (mem_ownedBy l u s).1 hsm
                  subst hcse
                  have hsz := (HA.out.small cs hcs).1
                  obtain ⟨hval, hnew⟩ := hwm4.step hjl (ownedBy_nodup HG.out.uids u) cs hcs hs HG.out.uids
                  have hlw := hf4.look Try.underlying37 zero3 cs.uid hsz
                  unfold zI at hval
                  rw [hval] at hlw
                  have hpop := waitsN_pop l P u cs HUP.out HUU.out
                  rw [(inB_iff u cs.owners).2 huo, if_pos rfl] at hpop
                  have hw4 := waitsN_le l P cs (HG.out.four cs hcs)
                  obtain ⟨n, hn⟩ : ∃ n, waitsN l P cs = n := ⟨_, rfl⟩
                  rw [hn] at hlw hnew hpop hw4
                  obtain ⟨w6, r6, hf6, hc6, hs6⟩ := hf4.set Try.underlying37 (by omega) cs.uid hsz (.int .i64 ((n : Int) - 1))
                  clear hs6
                  have hlw2 := hf6.look Try.underlying37 zero3 cs.uid hsz
                  rw [show (upd f4 cs.uid (some (.int .i64 ((n : Int) - 1))) cs.uid).getD (.int .i64 0) = .int .i64 ((n : Int) - 1) from by unfold upd; rw [if_pos rfl]; rfl] at hlw2
                  have hch6 := hch.trans hc6
                  have htwo6 := htwo.chg hc6 (fun k hk => by simp at hk; omega)
                  have hfs := freed_succ l (P ++ [u]) (ownedBy l u) j hjl cs.uid hs
                  have hfi := free_iff (P := P ++ [u]) HG.out.uids hcs huo
                  have hfl := freed_length l (P ++ [u]) ((ownedBy l u).take j)
                  rw [List.length_take] at hfl
                  have hn1 : (1 : Int) ≤ (n : Int) := by omega
                  have hn2 : (n : Int) ≤ 4 := by omega
                  have HF6 := Lib.hid hf6
                  have HNEW := Lib.hid hnew
                  have HCH6 := Lib.hid hch6
                  have HPOP := Lib.hid hpop
                  have HFI := Lib.hid hfi
                  have HFS := Lib.hid hfs
                  have HW4 := Lib.hid hw4
                  clear hcell hs hsm hval hf4 hwm4 hnew hf6 hc6 hch6 hch hn hpop hfi hfs hw4
                  by_cases hz : n = 1
                  · have hz1 : ((n : Int) - 1 == 0) = true := by simp; omega
                    have HZ := Lib.hid hz
                    have hfr := HFS.out.1 (HFI.out.2 (by have := HPOP.out; omega))
                    clear hz
                    obtain ⟨W8, hW8⟩ : ∃ W8, w6.alloc (.cells #[.string cs.uid] 9) = W8 := ⟨_, rfl⟩
                    have hcW8 : Chg [] w6 W8 := by rw [← hW8]; exact (Chg.refl [] w6).alloc _
                    have hxW8 : W8.cell? ⟨w6.heap.size, 0, none⟩ = some (.string cs.uid) := by rw [← hW8]; simp
                    obtain ⟨a7, c7, a8, c8, w9, hu7, r9, htwo9, g9⟩ := (htwo6.chg hcW8 (by simp)).push (by have := hcW8.size; have := HCH6.out.size; omega) (by rw [List.length_append]; omega) cs.uid ⟨w6.heap.size, 0, none⟩ hxW8
                    subst hu7
                    have hf9 := (HF6.out.chg hcW8 (by simp)).grown g9 (htwo6.q.chg hcW8 (by simp))
                    have hch9 := (htwo6.chg hcW8 (by simp)).chgB (HCH6.out.trans (hcW8.mono (by simp))) g9
                    rw [List.append_assoc, ← hfr] at htwo9
                    have HT9 := Lib.hid htwo9
                    have HF9 := Lib.hid hf9
                    have HCH9 := Lib.hid hch9
                    clear htwo9 hf9 hch9 g9 htwo6 hcW8 hfr htwo
                    rw [List.length_append] at r9 HT9
                    subst hW8
                    go_wp2_with fail
                    refine ⟨⟨j + 1, by go_num, by omega, HCH9.out, ⟨_, _, HF9.out, by split <;> omega, HNEW.out⟩, HT9.out⟩, ?_⟩
                    simp [intOf]; omega
                  · have hfr := HFS.out.2 (fun h => by have := HFI.out.1 h; have := HPOP.out; omega)
                    have hz1 : ((n : Int) - 1 == 0) = false := by simp; omega
                    rw [← hfr] at htwo6
                    have HT6 := Lib.hid htwo6
                    clear htwo6 hfr htwo
                    go_wp2_with fail
                    refine ⟨⟨j + 1, by go_num, by omega, HCH6.out, ⟨_, _, HF6.out, by split <;> omega, HNEW.out⟩, HT6.out⟩, ?_⟩
                    simp [intOf]; omega
                · have hz3 := hwm4.three (by omega) HG.out.uids HUP.out HUU.out
                  have htk : (ownedBy l u).take j = ownedBy l u := List.take_of_length_le (by omega)
                  rw [htk] at htwo
                  go_wp2_with fail
                  go_roundw
                  case rel =>
                    exact ⟨P ++ [u], _, HGP.out, hch, ⟨cc4, f4, hf4, by simp; omega, hz3⟩, htwo⟩
                  case measure => simp [lenOf]; omega
            · skip
              have hne1 : (cpq = 1) = False := by simp [hc1]
              obtain ⟨_, hcap1, hu0, htl⟩ := htwo.q.tail
              have hqb : ∀ k, (Value.slice (some ⟨qb, qo + 1, none⟩) Q.length (cpq - 1)).ownBlock = some k → (Value.slice (some ⟨qb, qo, none⟩) (u :: Q).length cpq).ownBlock = some k := fun k hk => hk
              have htwo1 : Two wr B (.slice (some ⟨qb, qo + 1, none⟩) Q.length (cpq - 1)) Q u8 P := ⟨htl, htwo.o, fun k hk => htwo.qa k (hqb k hk), htwo.oa, fun k hk => htwo.ap k (hqb k hk)⟩
              have hgp := hgi.pop HG.out.uids
              have hn := hgi.nodup
              have huP : u ∉ P := fun hm => by
                rw [List.nodup_append] at hn
                exact hn.2.2 u hm u (by simp) rfl
              have hfu : Free l P u := (hgi.mem u).1 (by simp)
              have huu := hfu.there
              obtain ⟨cu, hcu, hcue, _⟩ := hfu
              have HPUSH : Hid (∀ W, Chg [] wr W → ∀ a, W.cell? a = some (.string u) → ∃ aq cq a' c' w', u8 = .slice aq P.length cq ∧ (appWr #[23, 23] 23 #[u8, .slice (some a) 1 1]).run Try.prog W = .ok (.slice a' (P.length + 1) c') w' ∧ Two w' B (.slice a' (P.length + 1) c') (P ++ [u]) (.slice (some ⟨qb, qo + 1, none⟩) Q.length (cpq - 1)) Q ∧ W.grownBy w' u8.ownBlock) := fun W hW a ha =>
                (htwo1.chg hW (by simp)).swap.push (by have := hW.size; have := hch.size; omega) (by omega) u a ha
              obtain ⟨W, hW⟩ : ∃ W, wr.alloc (.cells #[.string u] 9) = W := ⟨_, rfl⟩
              have hcW : Chg [] wr W := by rw [← hW]; exact (Chg.refl [] wr).alloc _
              have hxW : W.cell? ⟨wr.heap.size, 0, none⟩ = some (.string u) := by rw [← hW]; simp
              obtain ⟨a8, c8, a9, c9, w5, rfl, r5, htwo5, g5⟩ := HPUSH.out W hcW _ hxW
              have hf5 := (hf.chg hcW (by simp)).grown g5 (htwo.o.chg hcW (by simp))
              have hch5 := (htwo1.chg hcW (by simp)).swap.chgB (hch.trans (hcW.mono (by simp))) g5
              have HT5 := Lib.hid htwo5.swap
              have HF5 := Lib.hid hf5
              have HCH5 := Lib.hid hch5
              have HGI := Lib.hid hgi
              have HGP := Lib.hid hgp
              have HWM := Lib.hid hwm
              have HUP := Lib.hid huP
              have HUU := Lib.hid huu
              have HCUE := Lib.hid hcue
              have HCU := Lib.hid hcu
              clear htwo htwo1 htwo5 hf hf5 hch hch5 g5 hgi hgp hwm HPUSH hn huP huu hcW hqb htl hcue hcu
              subst hW
              obtain ⟨hg5, q1, q2⟩ := HX.out _ HCH5.out
              have husz : u.size ≤ 9223372036854775807 := by rw [← HCUE.out]; exact (HA.out.small cu HCU.out).1
              obtain ⟨hf6, hst6⟩ := HY.out _ HCH5.out
              have hlk := hf6.look Try.underlying39 zero23 u husz
              obtain ⟨a6, cap6, hv6⟩ := (hst6 u).shape
              rw [hv6] at hlk
              have HST6 := Lib.hid hst6
              have HV6 := Lib.hid hv6
              have hol := ownedBy_length l u
              clear hst6 hv6
              go_wp2_with fail
              have HV6X : Hid (∀ X, Chg [w2.heap.size + 1] B X → StrsAt X (.slice a6 (ownedBy l u).length cap6) (ownedBy l u)) := fun X hX => by
                have := (HY.out X hX).2 u
                rw [HV6.out] at this
                exact this
              clear q1 q2 hu0 hxW hlk HST6 HV6
              have H4 : Hid (G4 B (w2.heap.size + 1) l P Q u (.slice a9 (P.length + 1) c9) (.int .i64 0) (.slice (some ⟨qb, qo + 1, none⟩) Q.length (cpq - 1)) w5) := ⟨0, rfl, Nat.zero_le _, HCH5.out, ⟨cc, f, HF5.out, by omega, HWM.out.four _⟩, by
                have := HT5.out
                simpa [freed] using this⟩
              obtain ⟨wx, rfl⟩ : ∃ wx : World, wx = wr := ⟨_, rfl⟩
              go_loopw [90, 7] (fun v vq wr => G4 B (w2.heap.size + 1) l P Q u (.slice a9 (P.length + 1) c9) v vq wr) (fun v _ _ => (ownedBy l u).length - (intOf v).toNat)
              case atStart => exact H4.out
              case round =>
                clear H4
                obtain ⟨j, rfl, hj, hch, ⟨cc4, f4, hf4, hcc4, hwm4⟩, htwo⟩ := hrel
                by_cases hjl : j < (ownedBy l u).length
                · obtain ⟨b5, off5, hb5, _, hcell⟩ := strs_cell (show StrsAt wr (.slice a6 (ownedBy l u).length cap6) (ownedBy l u) from HV6X.out wr hch) (by omega)
                  subst hb5
                  have hcj := hcell j hjl
                  obtain ⟨s, hs⟩ : ∃ s, (ownedBy l u).getD j ByteArray.empty = s := ⟨_, rfl⟩
                  rw [hs] at hcj
                  have hsm : s ∈ ownedBy l u := by rw [← hs]; simp only [List.getD, List.getElem?_eq_getElem hjl, Option.getD_some]; exact List.getElem_mem hjl
                  obtain ⟨cs, hcs, huo, hcse⟩ := (mem_ownedBy l u s).1 hsm
                  subst hcse
                  have hsz := (HA.out.small cs hcs).1
                  obtain ⟨hval, hnew⟩ := hwm4.step hjl (ownedBy_nodup HG.out.uids u) cs hcs hs HG.out.uids
                  have hlw := hf4.look Try.underlying37 zero3 cs.uid hsz
                  unfold zI at hval
                  rw [hval] at hlw
                  have hpop := waitsN_pop l P u cs HUP.out HUU.out
                  rw [(inB_iff u cs.owners).2 huo, if_pos rfl] at hpop
                  have hw4 := waitsN_le l P cs (HG.out.four cs hcs)
                  obtain ⟨n, hn⟩ : ∃ n, waitsN l P cs = n := ⟨_, rfl⟩
                  rw [hn] at hlw hnew hpop hw4
                  obtain ⟨w6, r6, hf6, hc6, hs6⟩ := hf4.set Try.underlying37 (by omega) cs.uid hsz (.int .i64 ((n : Int) - 1))
                  clear hs6
                  have hlw2 := hf6.look Try.underlying37 zero3 cs.uid hsz
                  rw [show (upd f4 cs.uid (some (.int .i64 ((n : Int) - 1))) cs.uid).getD (.int .i64 0) = .int .i64 ((n : Int) - 1) from by unfold upd; rw [if_pos rfl]; rfl] at hlw2
                  have hch6 := hch.trans hc6
                  have htwo6 := htwo.chg hc6 (fun k hk => by simp at hk; omega)
                  have hfs := freed_succ l (P ++ [u]) (ownedBy l u) j hjl cs.uid hs
                  have hfi := free_iff (P := P ++ [u]) HG.out.uids hcs huo
                  have hfl := freed_length l (P ++ [u]) ((ownedBy l u).take j)
                  rw [List.length_take] at hfl
                  have hn1 : (1 : Int) ≤ (n : Int) := by omega
                  have hn2 : (n : Int) ≤ 4 := by omega
                  have HF6 := Lib.hid hf6
                  have HNEW := Lib.hid hnew
                  have HCH6 := Lib.hid hch6
                  have HPOP := Lib.hid hpop
                  have HFI := Lib.hid hfi
                  have HFS := Lib.hid hfs
                  have HW4 := Lib.hid hw4
                  clear hcell hs hsm hval hf4 hwm4 hnew hf6 hc6 hch6 hch hn hpop hfi hfs hw4
                  by_cases hz : n = 1
                  · have hz1 : ((n : Int) - 1 == 0) = true := by simp; omega
                    have HZ := Lib.hid hz
                    have hfr := HFS.out.1 (HFI.out.2 (by have := HPOP.out; omega))
                    clear hz
                    obtain ⟨W8, hW8⟩ : ∃ W8, w6.alloc (.cells #[.string cs.uid] 9) = W8 := ⟨_, rfl⟩
                    have hcW8 : Chg [] w6 W8 := by rw [← hW8]; exact (Chg.refl [] w6).alloc _
                    have hxW8 : W8.cell? ⟨w6.heap.size, 0, none⟩ = some (.string cs.uid) := by rw [← hW8]; simp
                    obtain ⟨a7, c7, a8, c8, w9, hu7, r9, htwo9, g9⟩ := (htwo6.chg hcW8 (by simp)).push (by have := hcW8.size; have := HCH6.out.size; omega) (by rw [List.length_append]; omega) cs.uid ⟨w6.heap.size, 0, none⟩ hxW8
                    subst hu7
                    have hf9 := (HF6.out.chg hcW8 (by simp)).grown g9 (htwo6.q.chg hcW8 (by simp))
                    have hch9 := (htwo6.chg hcW8 (by simp)).chgB (HCH6.out.trans (hcW8.mono (by simp))) g9
                    rw [List.append_assoc, ← hfr] at htwo9
                    have HT9 := Lib.hid htwo9
                    have HF9 := Lib.hid hf9
                    have HCH9 := Lib.hid hch9
                    clear htwo9 hf9 hch9 g9 htwo6 hcW8 hfr htwo
                    rw [List.length_append] at r9 HT9
                    subst hW8
                    go_wp2_with fail
                    refine ⟨⟨j + 1, by go_num, by omega, HCH9.out, ⟨_, _, HF9.out, by split <;> omega, HNEW.out⟩, HT9.out⟩, ?_⟩
                    simp [intOf]; omega
                  · have hfr := HFS.out.2 (fun h => by have := HFI.out.1 h; have := HPOP.out; omega)
                    have hz1 : ((n : Int) - 1 == 0) = false := by simp; omega
                    rw [← hfr] at htwo6
                    have HT6 := Lib.hid htwo6
                    clear htwo6 hfr htwo
                    go_wp2_with fail
                    refine ⟨⟨j + 1, by go_num, by omega, HCH6.out, ⟨_, _, HF6.out, by split <;> omega, HNEW.out⟩, HT6.out⟩, ?_⟩
                    simp [intOf]; omega
                · have hz3 := hwm4.three (by omega) HG.out.uids HUP.out HUU.out
                  have htk : (ownedBy l u).take j = ownedBy l u := List.take_of_length_le (by omega)
                  rw [htk] at htwo
                  go_wp2_with fail
                  go_roundw
                  case rel =>
                    exact ⟨P ++ [u], _, HGP.out, hch, ⟨cc4, f4, hf4, by simp; omega, hz3⟩, htwo⟩
                  case measure => simp [lenOf]; omega
  · have hne : (checkE l != 0) = true := by simpa using hck
    have HCK := Lib.hid hck
    clear hck h
    go_enter Try.func6, Try.ntmps6
    go_wp2_with fail
    refine C8.out.mono ?_
    rintro e w1 ⟨rfl, hc1⟩
    go_wp2_with fail
    go_ret2
    exact ⟨hc1, .inl ⟨HCK.out, rfl⟩⟩
end Go.Proofs.Ytfdfljcieeccbaa

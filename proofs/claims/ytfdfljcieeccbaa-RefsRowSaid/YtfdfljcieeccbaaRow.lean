/- PLAIN LAWS of RefsRow: what refs.Order's loop keeps; a range over a map of this seat. No conditions but those said. -/
import Derived.Test.YtfdfljcieeccbaaMore
import Derived.Maps.RangeWalk
namespace Go.Proofs.Ytfdfljcieeccbaa
open Go.RowKit Go.Maps
/-- of those that s owns, how many are not in out. -/
noncomputable def leftN (l : List Card) (out : List ByteArray) (s : ByteArray) : Nat := ((ownedBy l s).filter fun o => !inB o out).length
theorem leftN_nil (l : List Card) (s : ByteArray) : leftN l [] s = (ownedBy l s).length := by
  unfold leftN
  rw [List.filter_eq_self.2 (fun a _ => by simp [(inB_false a []).2])]
theorem leftN_zero (l : List Card) (out : List ByteArray) (s : ByteArray) : leftN l out s = 0 ↔ ∀ x ∈ ownedBy l s, x ∈ out := by
  unfold leftN
  rw [List.length_eq_zero_iff, List.filter_eq_nil_iff]
  constructor
  · intro h x hx
    have := h x hx
    simpa [inB_iff] using this
  · intro h x hx
    simpa [inB_iff] using h x hx
theorem leftN_le (l : List Card) (out : List ByteArray) (s : ByteArray) : leftN l out s ≤ l.length := by
  unfold leftN
  exact Nat.le_trans (List.length_filter_le _ _) (ownedBy_length l s)
theorem leftN_add {l : List Card} (hnd : (uids l).Nodup) (out : List ByteArray) (x s : ByteArray) (hx : x ∉ out) : leftN l out s = leftN l (out ++ [x]) s + (if inB x (ownedBy l s) = true then 1 else 0) := by
  unfold leftN
  exact filter_count _ out x (ownedBy_nodup hnd s) hx
/-- what stands in the row: everybody once, each behind all that come under it. -/
structure OInv (l : List Card) (out : List ByteArray) : Prop where
  nodup : out.Nodup
  there : ∀ s ∈ out, s ∈ uids l
  behind : ∀ i, i < out.length → ∀ x ∈ ownedBy l (out.getD i ByteArray.empty), x ∈ out.take i
theorem OInv.start (l : List Card) : OInv l [] := ⟨List.nodup_nil, fun s h => by simp at h, fun i h => by simp at h⟩
theorem OInv.push {l : List Card} {out : List ByteArray} (h : OInv l out) (x : ByteArray) (hx : x ∉ out) (hu : x ∈ uids l) (h0 : leftN l out x = 0) : OInv l (out ++ [x]) := by
  refine ⟨?_, fun s hs => ?_, fun i hi y hy => ?_⟩
  · rw [List.nodup_append]
    exact ⟨h.nodup, by simp, fun a ha b hb e => by simp at hb; subst hb; subst e; exact hx ha⟩
  · rw [List.mem_append, List.mem_singleton] at hs
    rcases hs with hs | rfl
    · exact h.there s hs
    · exact hu
  · by_cases e : i < out.length
    · rw [getD_app _ _ _ _ e] at hy
      rw [List.take_append_of_le_length (by omega)]
      exact h.behind i e y hy
    · have ei : i = out.length := by simp at hi; omega
      subst ei
      rw [List.take_append_of_le_length (Nat.le_refl _), List.take_length]
      have : (out ++ [x]).getD out.length ByteArray.empty = x := by simp [List.getD]
      rw [this] at hy
      exact (leftN_zero l out x).1 h0 y hy
theorem OInv.length {l : List Card} {out : List ByteArray} (h : OInv l out) : out.length ≤ l.length := by
  have := nodup_sub_length (B := uids l) h.nodup h.there
  simpa [uids] using this
theorem OInv.all {l : List Card} {out : List ByteArray} (h : OInv l out) (hl : out.length = l.length) (s : ByteArray) (hs : s ∈ uids l) : s ∈ out := by
  apply Classical.byContradiction
  intro hn
  have := nodup_sub_length (A := s :: out) (B := uids l) (List.nodup_cons.2 ⟨hn, h.nodup⟩) (fun x hx => by
    rcases List.mem_cons.1 hx with rfl | hx
    · exact hs
    · exact h.there x hx)
  simp [uids] at this
  omega
/-- where it stands. -/
theorem OInv.desc {l : List Card} {out : List ByteArray} (h : OInv l out) (i : Nat) (hi : i < out.length) (s : ByteArray) (hs : Desc l (out.getD i ByteArray.empty) s) : ∃ j, j < i ∧ out.getD j ByteArray.empty = s := by
  refine hs (fun s => ∃ j, j < i ∧ out.getD j ByteArray.empty = s) (fun x hx => ?_) (fun y hy x hx => ?_)
  · obtain ⟨j, hj, _, e⟩ := mem_take_getD (h.behind i hi x hx)
    exact ⟨j, hj, e⟩
  · obtain ⟨j, hj, rfl⟩ := hy
    obtain ⟨k, hk, _, e⟩ := mem_take_getD (h.behind j (by omega) x hx)
    exact ⟨k, by omega, e⟩
theorem getD_inj {A : List ByteArray} (h : A.Nodup) {i j : Nat} (hi : i < A.length) (hj : j < A.length) (e : A.getD i ByteArray.empty = A.getD j ByteArray.empty) : i = j := by
  have e2 : A[i] = A[j] := by simpa [List.getD, hi, hj] using e
  have key : ∀ a b (ha : a < A.length) (hb : b < A.length), a < b → A[a] ≠ A[b] := fun a b ha hb hab => List.pairwise_iff_getElem.1 h a b ha hb hab
  rcases Nat.lt_trichotomy i j with h1 | h1 | h1
  · exact absurd e2 (key i j hi hj h1)
  · exact h1
  · exact absurd e2.symm (key j i hj hi h1)
theorem OInv.own {l : List Card} {out : List ByteArray} (h : OInv l out) (hl : out.length = l.length) (s : ByteArray) (hs : s ∈ uids l) : ¬ Desc l s s := by
  intro hd
  obtain ⟨i, hi, rfl⟩ := mem_getD (h.all hl s hs)
  obtain ⟨j, hj, e⟩ := h.desc i hi _ hd
  have := getD_inj h.nodup (show j < out.length by omega) hi e
  omega

/-! ### a range over a map -/
/-- a loop over block b, a map of c entries that gives what f says, is under way; block r knows how far. -/
def FMR (w : World) (b r c : Nat) (f : ByteArray → Option Value) (cnt : Nat) : Prop :=
  ∃ (D : DataW Value) (left : Lit → Bool), w.ranges Try.prog 9 Rv b r c D left cnt ∧ Maps.size D = c ∧ (∀ s, Maps.has D (sk s) = (f s).isSome) ∧ ∀ s z, D.atKey (sk s) (.held z) = .held ((f s).getD z)
theorem FMR.fm {w : World} {b r c cnt : Nat} {f : ByteArray → Option Value} (h : FMR w b r c f cnt) : FM w b c f := by
  obtain ⟨D, left, h, r⟩ := h; exact ⟨D, h.owns, r⟩
theorem FMR.left {w : World} {b r c cnt : Nat} {f : ByteArray → Option Value} (h : FMR w b r c f cnt) : w.rangeLeft b r = cnt := by
  obtain ⟨D, left, h, _⟩ := h; exact h.left_eq
theorem FM.range {w : World} {b c : Nat} {f : ByteArray → Option Value} (h : FM w b c f) {t e : TypeId} (ht : Try.prog.underlying t = some (.map 9 e)) :
    ∃ w', (Instr.range t (.map (some b))).run Try.prog w = .ok (.pointer (some ⟨w.heap.size, 0, none⟩)) w' ∧ FMR w' b w.heap.size c f c ∧ Chg [] w w' ∧ w'.heap.size = w.heap.size + 1 := by
  obtain ⟨D, ho, hs, r⟩ := h
  obtain ⟨w', r1, r2, r3, r4⟩ := ho.range sk_law ht
  exact ⟨w', r1, ⟨D, _, by rw [hs] at r2; exact r2, hs, r⟩, (Chg.refl [] w).grown r3 (fun k e => by cases e), r4⟩
theorem FMR.next {w : World} {b r c cnt : Nat} {f : ByteArray → Option Value} (h : FMR w b r c f cnt) (ty : TypeId) :
    (Instr.next (.pointer (some ⟨r, 0, none⟩)) false ty).run Try.prog w = .ok (.tuple #[.bool false]) w ∨
    ∃ s v w' cnt', s.size ≤ 9223372036854775807 ∧ f s = some v ∧ (Instr.next (.pointer (some ⟨r, 0, none⟩)) false ty).run Try.prog w = .ok (.tuple #[.bool true, .string s, v]) w' ∧ FMR w' b r c f cnt' ∧ cnt' < cnt ∧ Chg [r] w w' ∧
      (Instr.entry (.pointer (some ⟨r, 0, none⟩))).run Try.prog w' = .ok (.tuple #[.string s, v]) w' := by
  obtain ⟨D, left, hr, hs, hh, ha⟩ := h
  rcases hr.next sk_law ty with ⟨_, _, hrun⟩ | ⟨key, v, kl, y, w', cnt', hkey, hlk, hv, hat, hrun, hrg, hlt, hgr, hsz, hen⟩
  · exact .inl hrun
  · right
    obtain ⟨x, hx, hkl, hxl⟩ := Maps.keyOf_str Try.underlying9 hkey
    have e1 : key = .string (ba x) := hx
    subst hkl e1
    have hv' : (DataW.held v, []) = y := by
      unfold Rv at hv; injection hv
    have h1 := has_true_of_atKey hat
    have h2 := hh (ba x)
    rw [show sk (ba x) = .string x from rfl, h1] at h2
    obtain ⟨u, hu⟩ := Option.isSome_iff_exists.1 h2.symm
    have h3 := ha (ba x) v
    rw [show sk (ba x) = .string x from rfl, hat, ← hv', hu] at h3
    have h4 : v = u := by injection h3
    subst h4
    exact ⟨ba x, v, w', cnt', by rw [show (ba x).size = x.length from by simp [ba, ByteArray.size]]; unfold maxLen at hxl; omega, hu, hrun, ⟨D, _, hrg, hs, hh, ha⟩, hlt, (Chg.refl [r] w).grown hgr (fun k e => by cases e; simp), hen⟩

/-! ### what refs.Order's maps say -/
noncomputable def leftF (l : List Card) (out : List ByteArray) : ByteArray → Option Value := fun s => if inB s (uids l) = true ∧ inB s out = false then some (.int .i64 (leftN l out s)) else none
noncomputable def leftJ (l : List Card) (out : List ByteArray) (x : ByteArray) (ds : List ByteArray) (j : Nat) : ByteArray → Option Value := fun s => if inB s (uids l) = true ∧ inB s (out ++ [x]) = false then some (.int .i64 ((leftN l out s : Int) - (if inB s (ds.take j) = true then 1 else 0))) else none
theorem inB_push (s x : ByteArray) (out : List ByteArray) : inB s (out ++ [x]) = (inB s out || decide (s = x)) := by
  rw [Bool.eq_iff_iff, inB_iff, List.mem_append, List.mem_singleton, Bool.or_eq_true, inB_iff, decide_eq_true_eq]
theorem leftJ_zero (l : List Card) (out : List ByteArray) (x : ByteArray) (ds : List ByteArray) (s : ByteArray) : upd (leftF l out) x none s = leftJ l out x ds 0 s := by
  unfold upd leftJ leftF
  rw [inB_push]
  by_cases e : s = x
  · rw [if_pos e, if_neg (by simp [e])]
  · rw [if_neg e]
    have e2 : decide (s = x) = false := by simp [e]
    rw [e2, Bool.or_false]
    simp [inB_iff]
theorem mem_owned_iff {l : List Card} (hnd : (uids l).Nodup) {c : Card} (hc : c ∈ l) (s : ByteArray) : inB c.uid (ownedBy l s) = inB s (distinct c.owners) := by
  rw [Bool.eq_iff_iff, inB_iff, inB_iff, mem_ownedBy, mem_distinct]
  constructor
  · rintro ⟨d, hd, h1, h2⟩; rw [← uid_inj hnd hd hc h2]; exact h1
  · intro h1; exact ⟨c, hc, h1, rfl⟩
theorem leftJ_end {l : List Card} (hnd : (uids l).Nodup) {out : List ByteArray} {c : Card} (hc : c ∈ l) (hx : c.uid ∉ out) {j : Nat} (hj : (distinct c.owners).length ≤ j) (s : ByteArray) : leftJ l out c.uid (distinct c.owners) j s = leftF l (out ++ [c.uid]) s := by
  unfold leftJ leftF
  rw [List.take_of_length_le hj]
  split
  · rw [leftN_add hnd out c.uid s hx, mem_owned_iff hnd hc s]
    congr 2
    split <;> simp
  · rfl
theorem leftJ_out {l : List Card} {out : List ByteArray} {x : ByteArray} {ds : List ByteArray} {j : Nat} (h : j < ds.length) (hn : leftJ l out x ds j (ds.getD j ByteArray.empty) = none) (s : ByteArray) : leftJ l out x ds j s = leftJ l out x ds (j + 1) s := by
  unfold leftJ at *
  by_cases hd : inB s (uids l) = true ∧ inB s (out ++ [x]) = false
  · rw [if_pos hd, if_pos hd]
    have e : s ≠ ds.getD j ByteArray.empty := fun e => by
      rw [← e, if_pos hd] at hn; cases hn
    have : inB s (ds.take (j + 1)) = inB s (ds.take j) := by
      rw [take_succ_own _ _ h, inB_push]; simp only [decide_eq_false e, Bool.or_false]
    rw [this]
  · rw [if_neg hd, if_neg hd]
theorem leftJ_in {l : List Card} {out : List ByteArray} {x : ByteArray} {ds : List ByteArray} (hds : ds.Nodup) {j : Nat} (h : j < ds.length) {v : Value} (hn : leftJ l out x ds j (ds.getD j ByteArray.empty) = some v) : v = .int .i64 (leftN l out (ds.getD j ByteArray.empty)) ∧
    ∀ s, upd (leftJ l out x ds j) (ds.getD j ByteArray.empty) (some (.int .i64 ((leftN l out (ds.getD j ByteArray.empty) : Int) - 1))) s = leftJ l out x ds (j + 1) s := by
  have hnot : inB (ds.getD j ByteArray.empty) (ds.take j) = false := by
    rw [inB_false]
    intro hm
    obtain ⟨i, hi, hil, e⟩ := mem_take_getD hm
    have := getD_inj hds hil h e
    omega
  unfold leftJ at *
  split at hn
  · rename_i hd
    rw [hnot, if_neg (by simp)] at hn
    refine ⟨by injection hn with hn; rw [← hn]; simp, fun s => ?_⟩
    unfold upd
    by_cases e : s = ds.getD j ByteArray.empty
    · rw [if_pos e, e, if_pos hd, if_pos ((inB_iff _ _).2 (by rw [take_succ_own _ _ h]; simp))]
    · rw [if_neg e]
      have : inB s (ds.take (j + 1)) = inB s (ds.take j) := by
        rw [take_succ_own _ _ h, inB_push]; simp only [decide_eq_false e, Bool.or_false]
      rw [this]
  · cases hn
/-- a slice of strings, when nothing but a map has turned. -/
theorem StrsAt.chgMap {w w' : World} {v : Value} {l : List ByteArray} {m c : Nat} {f : ByteArray → Option Value} (h : StrsAt w v l) (hc : Chg [m] w w') (hm : FM w m c f) : StrsAt w' v l := by
  by_cases hl : 0 < l.length
  · exact h.chgM hc hm hl
  · obtain ⟨a, cap, rfl⟩ := h.shape
    have : l = [] := List.eq_nil_of_length_eq_zero (by omega)
    subst this
    exact .inl ⟨a, cap, rfl, rfl⟩
end Go.Proofs.Ytfdfljcieeccbaa

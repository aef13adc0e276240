/- WHAT FlowWhole KEEPS IN MEMORY, and the steps that turn it. No conditions but those that are typed. -/
import Derived.Test.YtdpkplnffemmgaaWait
import Derived.Test.YtdpkplnffemmgaaOffer
import Derived.Test.YtdpkplnffemmgaaFsteps
import Derived.Test.YtdpkplnffemmgaaWhole
namespace Go.Proofs.Ytdpkplnffemmgaa
open Go.RowKit

structure WLay where
  F : FB
  bf : Nat
  bm : Nat
  bw : Nat
  rb : Nat

/-- R: what each block is for: 0 nothing of ours, 1 the queue, 2 to 4 the three boxes, 5 the row of rows, 6 + k the row of flow k. -/
structure WMem (B0 : Nat) (L : WLay) (ws : List Int) (R : Nat → Nat) (qv : Value) (vs : List Value) (es : List Int) (now : Int) (ts : List Th) (wl : List (List Int)) (m : Int) (W : World) : Prop where
  fair : FairAt W L.F ws es now qv ts
  heap : HeapN ts ts.length
  cf : W.cell? ⟨L.bf, 0, none⟩ = some (.pointer (some ⟨L.F.fb, 0, none⟩))
  cm : W.cell? ⟨L.bm, 0, none⟩ = some (.int .i64 m)
  fm : W.frozen? ⟨L.bm, 0, none⟩ = false
  cw : W.cell? ⟨L.bw, 0, none⟩ = some (.slice (some ⟨L.rb, 0, none⟩) ws.length ws.length)
  row : W.ownsRow 0 22 1 (.slice (some ⟨L.rb, 0, none⟩) ws.length ws.length) ws.length vs
  wlen : wl.length = ws.length
  each : ∀ k, k < ws.length → WaitAt W (vs.getD k undef) (wl.getD k [])
  rF : R L.F.fb = 1 ∧ R L.F.wb = 1 ∧ R L.F.eb = 1
  rQ : ∀ k, qv.ownBlock = some k → R k = 1
  rB : R L.bf = 2 ∧ R L.bm = 3 ∧ R L.bw = 4 ∧ R L.rb = 5
  rV : ∀ k, k < ws.length → ∀ g, (vs.getD k undef).ownBlock = some g → R g = 6 + k
  r0 : ∀ x, R x ≠ 0 → B0 ≤ x ∧ x < W.heap.size

section
variable {B0 : Nat} {L : WLay} {ws : List Int} {R : Nat → Nat} {qv : Value} {vs : List Value} {es : List Int} {now : Int} {ts : List Th} {wl : List (List Int)} {m : Int} {W : World}

theorem WMem.vlen (h : WMem B0 L ws R qv vs es now ts wl m W) : vs.length = ws.length := by have := h.row.1; simpa using this

theorem WMem.chg (h : WMem B0 L ws R qv vs es now ts wl m W) {W' : World} (hc : Chg [] W W') : WMem B0 L ws R qv vs es now ts wl m W' :=
  ⟨h.fair.chg hc (by simp) (by simp) (by simp) (by simp), h.heap, hc.cell h.cf (by simp), hc.cell h.cm (by simp), hc.frz h.fm (World.block_lt_of_cell? W _ h.cm) (by simp), hc.cell h.cw (by simp), hc.row h.row (by simp), h.wlen,
   fun k hk => (h.each k hk).chg hc (by simp), h.rF, h.rQ, h.rB, h.rV, fun x hx => ⟨(h.r0 x hx).1, Nat.lt_of_lt_of_le (h.r0 x hx).2 hc.size⟩⟩

/-- the queue has turned. -/
theorem WMem.queue (h : WMem B0 L ws R qv vs es now ts wl m W) {W' : World} {l : List Nat} {es' : List Int} {now' : Int} {qv' : Value} {ts' : List Th} (hf : FairAt W' L.F ws es' now' qv' ts') (hh : HeapN ts' ts'.length)
    (hc : Chg l W W') (hl : ∀ x, x ∈ l → R x = 1) (hlies : Lies W qv qv') : ∃ R', WMem B0 L ws R' qv' vs es' now' ts' wl m W' := by
  have hfresh : ∀ g, qv'.ownBlock = some g → R g = 1 ∨ R g = 0 := by
    intro g hg
    rcases hlies with e | e | ⟨g', e, hge⟩
    · exact .inl (h.rQ g (e ▸ hg))
    · rw [e] at hg; cases hg
    · rw [e] at hg; cases hg
      right
      by_cases e0 : R g = 0
      · exact e0
      · have := (h.r0 g e0).2; omega
  have hR : ∀ x, R x ≠ 0 → (if qv'.ownBlock = some x then 1 else R x) = R x := by
    intro x hx
    split
    · rename_i e
      rcases hfresh x e with e1 | e1
      · exact e1.symm
      · exact absurd e1 hx
    · rfl
  have hnot : ∀ x, R x ≠ 1 → x ∉ l := fun x hx hm => hx (hl x hm)
  have gB : 0 ≤ B0 := Nat.zero_le _
  refine ⟨fun x => if qv'.ownBlock = some x then 1 else R x, hf, hh, hc.cell h.cf (hnot _ (by rw [h.rB.1]; omega)), hc.cell h.cm (hnot _ (by rw [h.rB.2.1]; omega)), hc.frz h.fm (World.block_lt_of_cell? W _ h.cm) (hnot _ (by rw [h.rB.2.1]; omega)), hc.cell h.cw (hnot _ (by rw [h.rB.2.2.1]; omega)),
    hc.row h.row (fun k hk => by simp [Value.ownBlock] at hk; subst hk; exact hnot _ (by rw [h.rB.2.2.2]; omega)), h.wlen, fun k hk => (h.each k hk).chg hc (fun g hg => hnot _ (by rw [h.rV k hk g hg]; omega)), ?_, ?_, ?_, ?_, ?_⟩
  · rw [hR _ (by rw [h.rF.1]; omega), hR _ (by rw [h.rF.2.1]; omega), hR _ (by rw [h.rF.2.2]; omega)]
    exact h.rF
  · intro k hk
    rw [if_pos hk]
  · rw [hR _ (by rw [h.rB.1]; omega), hR _ (by rw [h.rB.2.1]; omega), hR _ (by rw [h.rB.2.2.1]; omega), hR _ (by rw [h.rB.2.2.2]; omega)]
    exact h.rB
  · intro k hk g hg
    rw [hR _ (by rw [h.rV k hk g hg]; omega)]
    exact h.rV k hk g hg
  · intro x hx
    split at hx
    · rename_i e
      rcases hlies with e1 | e1 | ⟨g', e1, hge⟩
      · have := h.r0 x (by rw [h.rQ x (e1 ▸ e)]; omega)
        exact ⟨this.1, Nat.lt_of_lt_of_le this.2 hc.size⟩
      · rw [e1] at e; cases e
      · rw [e1] at e; cases e
        have hb := h.r0 L.bf (by rw [h.rB.1]; omega)
        refine ⟨by omega, ?_⟩
        exact (hf.line.owns.lt x e1).2
    · have := h.r0 x hx
      exact ⟨this.1, Nat.lt_of_lt_of_le this.2 hc.size⟩

/-- the count has turned. -/
theorem WMem.count (h : WMem B0 L ws R qv vs es now ts wl m W) (m' : Int) : WMem B0 L ws R qv vs es now ts wl m' (W.setCell ⟨L.bm, 0, none⟩ (.int .i64 m')) := by
  have hc : Chg [L.bm] W (W.setCell ⟨L.bm, 0, none⟩ (.int .i64 m')) := (Chg.refl _ _).setCell (.inl (by simp)) _
  have hnot : ∀ x, R x ≠ 3 → x ∉ [L.bm] := fun x hx hm => hx (by simp at hm; rw [hm]; exact h.rB.2.1)
  refine ⟨h.fair.chg hc (hnot _ (by rw [h.rF.1]; omega)) (hnot _ (by rw [h.rF.2.1]; omega)) (hnot _ (by rw [h.rF.2.2]; omega)) (fun k hk => hnot _ (by rw [h.rQ k hk]; omega)), h.heap, hc.cell h.cf (hnot _ (by rw [h.rB.1]; omega)), World.cell?_setCell_same _ _ _ h.cm,
    by rw [World.frozen?_setCell]; exact h.fm, hc.cell h.cw (hnot _ (by rw [h.rB.2.2.1]; omega)), hc.row h.row (fun k hk => by simp [Value.ownBlock] at hk; subst hk; exact hnot _ (by rw [h.rB.2.2.2]; omega)), h.wlen,
    fun k hk => (h.each k hk).chg hc (fun g hg => hnot _ (by rw [h.rV k hk g hg]; omega)), h.rF, h.rQ, h.rB, h.rV, fun x hx => ⟨(h.r0 x hx).1, Nat.lt_of_lt_of_le (h.r0 x hx).2 hc.size⟩⟩

/-- what waits of one flow has turned. -/
theorem WMem.wait (h : WMem B0 L ws R qv vs es now ts wl m W) (k : Nat) (hk : k < ws.length) {W1 : World} {v' : Value} {ids' : List Int} {row : Option Nat} (hrow : row = (vs.getD k undef).ownBlock) (hg : W.grownBy W1 row) (hw : WaitAt W1 v' ids') (hlies : Lies W (vs.getD k undef) v') :
    ∃ R', WMem B0 L ws R' qv (vs.set k v') es now ts (wl.set k ids') m (W1.setCell ⟨L.rb, k, none⟩ v') := by
  subst hrow
  have hvl := h.vlen
  have hc1 : Chg (vs.getD k undef).ownBlock.toList W W1 := (Chg.refl _ _).grown hg (fun x hx => .inl (by simp only [Option.mem_toList]; exact hx))
  have hc : Chg (L.rb :: (vs.getD k undef).ownBlock.toList) W (W1.setCell ⟨L.rb, k, none⟩ v') := (hc1.mono (fun x hx => .inl (by simp at hx; simp [hx]))).setCell (.inl (by simp)) _
  have hnot : ∀ x, R x ≠ 5 → R x ≠ 6 + k → x ∉ (L.rb :: (vs.getD k undef).ownBlock.toList) := by
    intro x h5 h6 hm
    simp only [List.mem_cons, Option.mem_toList] at hm
    rcases hm with e | e
    · subst e; exact h5 h.rB.2.2.2
    · exact h6 (h.rV k hk x e)
  have hfresh : ∀ g, v'.ownBlock = some g → R g = 6 + k ∨ R g = 0 := by
    intro g hg'
    rcases hlies with e | e | ⟨g', e, hge⟩
    · exact .inl (h.rV k hk g (e ▸ hg'))
    · rw [e] at hg'; cases hg'
    · rw [e] at hg'; cases hg'
      right
      by_cases e0 : R g = 0
      · exact e0
      · have := (h.r0 g e0).2; omega
  have hR : ∀ x, R x ≠ 0 → (if v'.ownBlock = some x then 6 + k else R x) = R x := by
    intro x hx
    split
    · rename_i e
      rcases hfresh x e with e1 | e1
      · exact e1.symm
      · exact absurd e1 hx
    · rfl
  have hrow1 : W1.ownsRow 0 22 1 (.slice (some ⟨L.rb, 0, none⟩) ws.length ws.length) ws.length vs := hc1.row h.row (fun g hg' hm => by
    simp [Value.ownBlock] at hg'
    subst hg'
    simp only [Option.mem_toList] at hm
    have := h.rV k hk _ hm
    rw [h.rB.2.2.2] at this
    omega)
  have hrow2 := (World.ownsRow.stored hrow1 k v').1
  have hvb : ∀ g, v'.ownBlock = some g → g ≠ L.rb := by
    intro g hg' e
    subst e
    rcases hfresh _ hg' with e1 | e1
    · rw [h.rB.2.2.2] at e1; omega
    · rw [h.rB.2.2.2] at e1; omega
  refine ⟨fun x => if v'.ownBlock = some x then 6 + k else R x, h.fair.chg hc (hnot _ (by rw [h.rF.1]; omega) (by rw [h.rF.1]; omega)) (hnot _ (by rw [h.rF.2.1]; omega) (by rw [h.rF.2.1]; omega)) (hnot _ (by rw [h.rF.2.2]; omega) (by rw [h.rF.2.2]; omega)) (fun x hx => hnot _ (by rw [h.rQ x hx]; omega) (by rw [h.rQ x hx]; omega)),
    h.heap, hc.cell h.cf (hnot _ (by rw [h.rB.1]; omega) (by rw [h.rB.1]; omega)), hc.cell h.cm (hnot _ (by rw [h.rB.2.1]; omega) (by rw [h.rB.2.1]; omega)), hc.frz h.fm (World.block_lt_of_cell? W _ h.cm) (hnot _ (by rw [h.rB.2.1]; omega) (by rw [h.rB.2.1]; omega)),
    hc.cell h.cw (hnot _ (by rw [h.rB.2.2.1]; omega) (by rw [h.rB.2.2.1]; omega)), hrow2, by rw [List.length_set]; exact h.wlen, ?_, ?_, ?_, ?_, ?_, ?_⟩
  · intro j hj
    rw [getD_set _ _ _ _ _ (by omega), getD_set _ _ _ _ _ (by rw [h.wlen]; exact hk)]
    by_cases e : j = k
    · subst e
      rw [if_pos rfl, if_pos rfl]
      exact hw.chg ((Chg.refl [L.rb] W1).setCell (.inl (by simp)) v') (fun g hg' => by have := hvb g hg'; simpa using this)
    · rw [if_neg e, if_neg e]
      exact (h.each j hj).chg hc (fun g hg' => hnot _ (by rw [h.rV j hj g hg']; omega) (by rw [h.rV j hj g hg']; omega))
  · rw [hR _ (by rw [h.rF.1]; omega), hR _ (by rw [h.rF.2.1]; omega), hR _ (by rw [h.rF.2.2]; omega)]
    exact h.rF
  · intro x hx
    rw [hR _ (by rw [h.rQ x hx]; omega)]
    exact h.rQ x hx
  · rw [hR _ (by rw [h.rB.1]; omega), hR _ (by rw [h.rB.2.1]; omega), hR _ (by rw [h.rB.2.2.1]; omega), hR _ (by rw [h.rB.2.2.2]; omega)]
    exact h.rB
  · intro j hj g hg'
    rw [getD_set _ _ _ _ _ (by omega)] at hg'
    by_cases e : j = k
    · subst e
      rw [if_pos rfl] at hg'
      rw [if_pos hg']
    · rw [if_neg e] at hg'
      rw [hR _ (by rw [h.rV j hj g hg']; omega)]
      exact h.rV j hj g hg'
  · intro x hx
    split at hx
    · rename_i e
      have hlt := hw.lt x e
      rcases hlies with e1 | e1 | ⟨g', e1, hge⟩
      · have := h.r0 x (by rw [h.rV k hk x (e1 ▸ e)]; omega)
        exact ⟨this.1, Nat.lt_of_lt_of_le this.2 hc.size⟩
      · rw [e1] at e; cases e
      · rw [e1] at e; cases e
        have hb := h.r0 L.bf (by rw [h.rB.1]; omega)
        exact ⟨by omega, by simpa [World.setCell] using hlt⟩
    · have := h.r0 x hx
      exact ⟨this.1, Nat.lt_of_lt_of_le this.2 hc.size⟩
end
end Go.Proofs.Ytdpkplnffemmgaa

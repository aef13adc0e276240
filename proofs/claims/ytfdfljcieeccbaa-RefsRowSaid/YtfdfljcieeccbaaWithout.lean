/- THE WALK of seneschalkeep.without: the cards that are not of these. Conditions: at most 1000 cards. -/
import Derived.Test.YtfdfljcieeccbaaHas
namespace Go.Proofs.Ytfdfljcieeccbaa
open Go.RowKit
attribute [local go_sem ↓ high] appWr_eq
def pc (ps : List (ByteArray × Value)) : List Value := ps.flatMap fun p => [.string p.1, p.2]
theorem pc_length (ps : List (ByteArray × Value)) : (pc ps).length = ps.length * 2 := by
  induction ps with
  | nil => rfl
  | cons p ps ih => simp only [pc, List.flatMap_cons, List.length_append, List.length_cons] at *; rw [ih]; simp; omega
theorem pc_append (a b : List (ByteArray × Value)) : pc (a ++ b) = pc a ++ pc b := by simp [pc]
theorem pc_get (ps : List (ByteArray × Value)) (i : Nat) (h : i < ps.length) : (pc ps)[i * 2]? = some (.string ps[i].1) ∧ (pc ps)[i * 2 + 1]? = some ps[i].2 := by
  induction ps generalizing i with
  | nil => simp at h
  | cons p ps ih =>
    have e : pc (p :: ps) = .string p.1 :: p.2 :: pc ps := by simp [pc]
    rw [e]
    cases i with
    | zero => simp
    | succ i =>
      have := ih i (by simpa using h)
      rw [show (i + 1) * 2 = i * 2 + 1 + 1 from by omega]
      simpa using this
theorem info31 : (Try.prog.info? 31).map (fun i => (i.zero, i.size, i.bytes)) = some (some (.agg #[.string ByteArray.empty, .slice none 0 0]), 2, 40) := by kernel_rfl
/-- what the pairs say are these cards, in w. -/
def PsAt (w : World) (ps : List (ByteArray × Value)) (l : List Card) : Prop :=
  ps.length = l.length ∧ ∀ k (h : k < ps.length), ps[k].1 = (gc l k).uid ∧ StrsAt w ps[k].2 (gc l k).owners ∧ (gc l k).uid.size ≤ 9223372036854775807 ∧ Small (gc l k).owners ∧ (gc l k).owners.length ≤ 9223372036854775807
theorem PsAt.push {w : World} {ps : List (ByteArray × Value)} {l : List Card} (h : PsAt w ps l) (c : Card) (v : Value) (hv : StrsAt w v c.owners) (h1 : c.uid.size ≤ 9223372036854775807) (h2 : Small c.owners) (h3 : c.owners.length ≤ 9223372036854775807) : PsAt w (ps ++ [(c.uid, v)]) (l ++ [c]) := by
  refine ⟨by simp [h.1], fun k hk => ?_⟩
  by_cases e : k < ps.length
  · have hg : gc (l ++ [c]) k = gc l k := by simp [gc, List.getD, List.getElem?_append_left (show k < l.length by rw [← h.1]; exact e)]
    rw [hg, List.getElem_append_left e]
    exact h.2 k e
  · have ek : k = ps.length := by simp at hk; omega
    subst ek
    have hg : gc (l ++ [c]) ps.length = c := by rw [h.1]; simp [gc, List.getD]
    rw [hg]
    simp
    exact ⟨hv, h1, h2, h3⟩
theorem PsAt.cards {w w' : World} {ps : List (ByteArray × Value)} {l : List Card} {v : Value} {base : Nat} (h : PsAt w ps l) (hc : Chg [] w w') (ho : w'.ownsRow base 31 2 v ps.length (pc ps)) : CardsAt w' v l := by
  rcases ho.2 with ⟨rfl, h0⟩ | ⟨g, cap, cur, rfl, hb, hg, r1, r2, r3, r4⟩
  · exact .inl ⟨none, 0, rfl, List.eq_nil_of_length_eq_zero (by rw [← h.1]; exact h0)⟩
  · refine .inr ⟨g, 0, cap, by rw [h.1], by rw [← h.1]; exact r1, by unfold maxLen at r2; omega, (Array.getElem?_eq_some_iff.1 hg).1, fun i hi => ?_⟩
    have hi' : i < ps.length := by rw [h.1]; exact hi
    obtain ⟨e1, e2, e3, e4, e5⟩ := h.2 i hi'
    obtain ⟨p1, p2⟩ := pc_get ps i hi'
    have get : ∀ j u, j < ps.length * 2 → (pc ps)[j]? = some u → w'.cell? ⟨g, 0 + j, none⟩ = some u := fun j u hj hu => by
      rw [cell_of_row _ _ _ _ _ _ hg, Nat.zero_add]
      rw [← r4, List.getElem?_take, if_pos hj] at hu
      simpa using hu
    refine ⟨ps[i].2, ?_, ?_, e2.chg hc (fun _ _ _ _ _ => by simp), e3, e4, e5⟩
    · rw [← e1]; exact get _ _ (by omega) p1
    · exact get (i * 2 + 1) _ (by omega) p2
/-- those that are not of out. -/
noncomputable def rest (l : List Card) (out : List ByteArray) : List Card := l.filter fun c => !inB c.uid out
theorem rest_succ (l : List Card) (out : List ByteArray) (i : Nat) (h : i < l.length) : rest (l.take (i + 1)) out = rest (l.take i) out ++ (if inB (gc l i).uid out = true then [] else [gc l i]) := by
  unfold rest
  rw [take_succ_gc l i h, List.filter_append]
  congr 1
  cases hb : inB (gc l i).uid out <;> simp [hb]
theorem rest_length (l : List Card) (out : List ByteArray) : (rest l out).length ≤ l.length := List.length_filter_le _ _
def W1 (w : World) (l : List Card) (out : List ByteArray) (vi vr : Value) (wr : World) : Prop := ∃ i : Nat, vi = .int .i64 i ∧ i ≤ l.length ∧ Chg [] w wr ∧ ∃ ps, PsAt w ps (rest (l.take i) out) ∧ wr.ownsRow w.heap.size 31 2 vr ps.length (pc ps)
theorem row_shape {w : World} {b : Nat} {e : TypeId} {sz n : Nat} {v : Value} {xs : List Value} (h : w.ownsRow b e sz v n xs) : ∃ a c, v = .slice a n c := by
  rcases h.2 with ⟨rfl, rfl⟩ | ⟨g, cap, cur, rfl, _⟩
  · exact ⟨none, 0, rfl⟩
  · exact ⟨_, cap, rfl⟩
set_option maxHeartbeats 1000000 in
theorem without_any (a : Option Addr) (cap : Nat) (l : List Card) (vo : Value) (out : List ByteArray) (w : World) (h : CardsAt w (.slice a l.length cap) l) (hlen : l.length ≤ 1000) (ho : StrsAt w vo out) :
    Calls Try.prog 9 #[.slice a l.length cap, vo] w fun e w' => ∃ v, e = .returned v ∧ CardsAt w' v (rest l out) ∧ Chg [] w w' := by
  have HA := Lib.hid h
  have HO := Lib.hid ho
  obtain ⟨ao, co, rfl⟩ := ho.shape
  have H0 : Hid (W1 w l out (.int .i64 0) (.slice none 0 0) w) := ⟨0, rfl, Nat.zero_le _, Chg.refl _ _, [], ⟨rfl, fun k hk => by simp at hk⟩, World.ownsRow_nil _ _ _ _⟩
  obtain ⟨i0, hi0, hz0, hz1, hz2⟩ := info_parts info31
  clear h ho
  go_enter Try.func9, Try.ntmps9
  go_wp2_with fail
  go_loopw [10, 5] (fun vi vr wr => W1 w l out vi vr wr) (fun vi _ _ => l.length - (intOf vi).toNat)
  case atStart => exact H0.out
  case round =>
    clear H0
    obtain ⟨i, rfl, hi, hch, ps, hps, hrow⟩ := hrel
    obtain ⟨ar, cr, hvr⟩ := row_shape hrow
    subst hvr
    by_cases hlt : i < l.length
    · rcases HA.out with ⟨a', cap', h1, h2⟩ | ⟨b, off, cap', h1, hl1, hl2, hl3, hat⟩
      · subst h2; simp at hlt
      · injection h1 with h1 h2 h3
        subst h1 h3
        obtain ⟨v, k1, k2, hs, hu, hso, hol⟩ := hat i hlt
        obtain ⟨a2, cap2, rfl⟩ := hs.shape
        have k1' := hch.cell k1 (by simp)
        have k2' := hch.cell k2 (by simp)
        have CH := Lib.hid (fun W (hW : Chg [] w W) => has_any (.slice ao out.length co) out (gc l i).uid W (HO.out.chg hW (fun _ _ _ _ _ => by simp)))
        have hsuc := rest_succ l out i hlt
        have hpl : ps.length ≤ 1000 := by rw [hps.1]; have := rest_length (l.take i) out; rw [List.length_take] at this; omega
        obtain ⟨W, hW⟩ : ∃ W, wr.alloc (.cells #[.string (gc l i).uid, .slice a2 (gc l i).owners.length cap2] 31) = W := ⟨_, rfl⟩
        have wO : Chg [] wr W := by rw [← hW]; exact (Chg.refl [] wr).alloc _
        have CHW := Lib.hid (CH.out W (hch.trans wO))
        have hrowW := wO.row hrow (by simp)
        have HPS := Lib.hid hps
        have HSO := Lib.hid hso
        have HSS := Lib.hid hs
        have HCH := Lib.hid (hch.trans wO)
        cases hb : inB (gc l i).uid out
        · rw [hb] at CHW
          rw [hb, if_neg (by simp)] at hsuc
          obtain ⟨W', hW'⟩ : ∃ W', W.alloc (.cells #[.string (gc l i).uid, .slice a2 (gc l i).owners.length cap2] 31) = W' := ⟨_, rfl⟩
          have wO' : Chg [] W W' := by rw [← hW']; exact (Chg.refl [] W).alloc _
          have hheap : W'.heap[W.heap.size]? = some (.cells #[.string (gc l i).uid, .slice a2 (gc l i).owners.length cap2] 31 (0, 0)) := by rw [← hW']; exact World.alloc_heap_new W _
          have hcW : W'.cell? ⟨W.heap.size, 0, none⟩ = some (.string (gc l i).uid) := by rw [cell_of_row _ _ _ _ _ _ hheap]; rfl
          have hcW2 : W'.cell? ⟨W.heap.size, 1, none⟩ = some (.slice a2 (gc l i).owners.length cap2) := by rw [cell_of_row _ _ _ _ _ _ hheap]; rfl
          obtain ⟨v9, w9, r9, row9, g9, _⟩ := run_append_own (P := Try.prog) W' w.heap.size 22 22 31 i0 (.agg #[.string ByteArray.empty, .slice none 0 0]) 2 40 Try.underlying22 hi0 hz0 hz1 hz2 rfl (by decide) (.slice ar ps.length cr) ps.length (pc ps) (wO'.row hrowW (by simp)) ⟨W.heap.size, 0, none⟩ 1 1 [.string (gc l i).uid, .slice a2 (gc l i).owners.length cap2] rfl
            (fun j u hj => by
              match j, hj with
              | 0, hj => simp at hj; subst hj; simpa [Addr.add] using hcW
              | 1, hj => simp at hj; subst hj; simpa [Addr.add] using hcW2
              | j + 2, hj => simp at hj)
            (fun u hu => by simp at hu; rcases hu with rfl | rfl <;> rfl) (by unfold maxLen; omega) (by omega) (by have := HCH.out.size; have := wO'.size; omega)
          obtain ⟨a9, c9, hv9⟩ := row_shape row9
          subst hv9
          have r9' : (appWr #[22, 22] 22 #[.slice ar ps.length cr, .slice (some ⟨W.heap.size, 0, none⟩) 1 1]).run Try.prog W' = .ok (.slice a9 (ps.length + 1) c9) w9 := r9
          have hc9 : Chg [] w w9 := (HCH.out.trans wO').grown g9 (fun k hk => by
            right
            rcases hrow.2 with ⟨h1, _⟩ | ⟨g, cap4, cur, h1, h2, _⟩
            · rw [h1] at hk; simp [Value.ownBlock] at hk
            · rw [h1] at hk; simp [Value.ownBlock] at hk; omega)
          have HC9 := Lib.hid hc9
          have HR9 := Lib.hid row9
          have HSUC := Lib.hid hsuc
          clear r9 row9 g9 hc9 hrow hrowW wO' wO hps hs hso hch hheap hcW hcW2 hsuc CH
          subst hW'
          subst hW
          rw [World.size_alloc] at r9'
          go_wp2_with fail
          refine CHW.out.mono ?_
          rintro e w' ⟨rfl, rfl⟩
          go_wp2_with fail
          go_roundw
          case rel =>
            refine ⟨i + 1, by go_num, by omega, HC9.out, ps ++ [((gc l i).uid, .slice a2 (gc l i).owners.length cap2)], ?_, ?_⟩
            · rw [HSUC.out]; exact HPS.out.push (gc l i) _ HSS.out hu HSO.out hol
            · rw [pc_append, List.length_append]; exact HR9.out
          case measure => simp [intOf]; omega
        · rw [hb] at CHW
          rw [hb, if_pos rfl, List.append_nil] at hsuc
          have HSUC := Lib.hid hsuc
          have HRW := Lib.hid hrowW
          clear hrow hrowW wO hps hs hso hch hsuc CH
          subst hW
          go_wp2_with fail
          refine CHW.out.mono ?_
          rintro e w' ⟨rfl, rfl⟩
          go_wp2_with fail
          go_roundw
          case rel =>
            refine ⟨i + 1, by go_num, by omega, HCH.out, ps, ?_, HRW.out⟩
            rw [HSUC.out]; exact HPS.out
          case measure => simp [intOf]; omega
    · have hil : l.take i = l := List.take_of_length_le (by omega)
      rw [hil] at hps
      have HF := Lib.hid (hps.cards hch hrow)
      have HCH := Lib.hid hch
      clear hps hch hrow
      go_wp2_with fail
      go_ret
      exact ⟨_, rfl, HF.out, HCH.out⟩
end Go.Proofs.Ytfdfljcieeccbaa

/- RefsClosed: for every input it returns true, and its argument reads as it did. Conditions: none. -/
import Derived.Test.YtfdfljcieeccbaaRows
import Derived.Test.YtfdfljcieeccbaaClosedW
import Derived.WalkKit
import Derived.ProofKit
import Derived.OpenShut
import Derived.ShutString
import Derived.ChangeOld
import Derived.Below
import Derived.SizedLaws
import Derived.Deep.Slices
import Derived.SliceStrings
namespace Go.Proofs.Ytfdfljcieeccbaa.refsClosed
open Go.ChangeShapes Go.WideShapes Go.ChangeAt Go.RowKit
open Go.ChangeMaps (open_string shut_string)
set_option linter.unusedVariables false
theorem own : ownKnob Try.prog.godebug = none := by kernel_rfl
theorem laidOut : laidOutB Try.prog = true := by kernel_rfl
theorem cells31 : Try.prog.cellsOf 31 = 2 := by kernel_rfl
theorem cells9 : Try.prog.cellsOf 9 = 1 := by kernel_rfl
theorem cells23 : Try.prog.cellsOf 23 = 1 := by kernel_rfl
theorem field0 : ∃ (fs : Array Field) (f0 f1 : Field), Try.prog.underlying 31 = some (.struct fs) ∧ fs[0]? = some f0 ∧ fs[1]? = some f1 ∧ f0.type = 9 ∧ f1.type = 23 ∧ f0.offset = 0 ∧ f1.offset = 1 :=
  ⟨_, _, _, Try.underlying31, rfl, rfl, rfl, rfl, rfl, rfl⟩
theorem add_off {w : World} {a : Addr} {v : Value} (h : w.cell? (a.add 0) = some v) : a = ⟨a.block, a.off, none⟩ := by
  obtain ⟨b, off, spot⟩ := a
  have h1 := World.cell?_spot h
  have : spot = none := by simpa [Addr.add] using h1
  rw [this]
theorem open_strs {H : Type} {enc : TypeId × Value → H} {w : World} {spare : Nat → Bool} {held : Bool} {fuel : Nat} {v : Value} {x : DataW H × List MemPlace}
    (h : DataW.trod enc Try.prog w 0 spare held fuel 23 [v] = some x) : ∃ l, StrsAt w v l ∧ Small l ∧ l.length ≤ 9223372036854775807 := by
  rcases open_strings Try.underlying23 Try.underlying9 cells9 h with ⟨hcs, _⟩ | ⟨a, len, cap, ss, hcs, hb, hl, hm, hlen, hx, hrest⟩
  · injection hcs with hcs _; subst hcs
    exact ⟨[], .inl ⟨none, 0, rfl, rfl⟩, fun s hs => by simp at hs, by simp⟩
  · injection hcs with hcs _; subst hcs
    obtain ⟨hc, hsm⟩ := hrest
    unfold maxLen at hm hsm
    have hls : len ≤ ss.length := by rw [hlen]; split <;> omega
    have hsmall : Small (ss.take len) := fun s hs => hsm s (List.mem_of_mem_take hs)
    have hl2 : (ss.take len).length = len := by simp; omega
    refine ⟨ss.take len, ?_, hsmall, by omega⟩
    by_cases h0 : len = 0
    · subst h0; exact .inl ⟨some a, cap, rfl, by simp⟩
    · have h1 := hc 0 (by omega)
      have ha := add_off h1
      have hblk : a.block < w.heap.size := by
        have h1' := h1
        rw [ha] at h1'
        exact World.block_lt_of_cell? w ⟨a.block, a.off + 0, none⟩ (by simpa [Addr.add] using h1')
      refine .inr ⟨a.block, a.off, cap, by rw [hl2, ← ha], by omega, by omega, hblk, fun i hi => ?_⟩
      have h2 := hc i (by omega)
      rw [ha] at h2
      simp only [Addr.add_lit] at h2
      rw [h2]
      have hil : i < len := by omega
      have hi2 : i < ss.length := by omega
      simp [List.getD, hil, List.getElem?_take]
theorem open_cards {H : Type} {enc : TypeId × Value → H} {w : World} {spare : Nat → Bool} {held : Bool} {fuel : Nat} {cs : List Value} {x : DataW H × List MemPlace}
    (h : DataW.trod enc Try.prog w 0 spare held fuel 22 cs = some x) : ∃ a cap l, cs = [.slice a l.length cap] ∧ CardsAt w (.slice a l.length cap) l := by
  rcases Go.Deep.open_slice Try.underlying22 h with ⟨rfl, _⟩ | ⟨a, len, cap, m, n, D, Pl, rfl, hb, hl, hm, hmm, hx, hi⟩
  · exact ⟨none, 0, [], rfl, .inl ⟨none, 0, rfl, rfl⟩⟩
  · have hlm : len ≤ m := by rw [hmm]; split <;> omega
    unfold maxLen at hm
    have two : ∀ i, i < len → ∃ c : Card, ∃ v, w.cell? ((a.add (i * 2)).add 0) = some (.string c.uid) ∧ w.cell? ((a.add (i * 2)).add 1) = some v ∧ StrsAt w v c.owners ∧ c.uid.size ≤ 9223372036854775807 ∧ Small c.owners ∧ c.owners.length ≤ 9223372036854775807 := by
      intro i hil
      obtain ⟨cs', hc, ht⟩ := hi i (by omega)
      rw [cells31] at hc
      obtain ⟨fs, f0, f1, hu, g0, g1, t0, t1, o0, o1⟩ := field0
      obtain ⟨xs, n', _, _, _, hxl, hf⟩ := DataW.trod_struct hu ht
      obtain ⟨_, hcl, hat⟩ := World.cells?_some hc
      have p0 := hf 0 f0 g0
      have p1 := hf 1 f1 g1
      have l0 : 0 < xs.length := by rw [hxl]; exact (Array.getElem?_eq_some_iff.1 g0).1
      have l1 : 1 < xs.length := by rw [hxl]; exact (Array.getElem?_eq_some_iff.1 g1).1
      rw [t0, o0, cells9, List.getElem?_eq_getElem l0] at p0
      rw [t1, o1, cells23, List.getElem?_eq_getElem l1] at p1
      obtain ⟨s, hs, _, hss⟩ := DataW.trod_string Try.underlying9 p0
      have e1 : ∃ v, (cs'.drop 1).take 1 = [v] := by
        match cs', hcl with
        | [a, b], _ => exact ⟨b, rfl⟩
      obtain ⟨v, hv⟩ := e1
      rw [hv] at p1
      obtain ⟨os, q1, q2, q3⟩ := open_strs p1
      unfold maxLen at hss
      refine ⟨⟨s, os⟩, v, ?_, ?_, q1, hss, q2, q3⟩
      · rw [hat 0 (by omega)]
        have h3 : ((cs'.drop 0).take 1)[0]? = some (.string s) := by rw [hs]; rfl
        rw [List.getElem?_take, if_pos (by omega), List.getElem?_drop] at h3
        simpa using h3
      · rw [hat 1 (by omega)]
        have h3 : ((cs'.drop 1).take 1)[0]? = some v := by rw [hv]; rfl
        rw [List.getElem?_take, if_pos (by omega), List.getElem?_drop] at h3
        simpa using h3
    by_cases h0 : len = 0
    · subst h0; exact ⟨some a, cap, [], rfl, .inl ⟨_, _, rfl, rfl⟩⟩
    · have hex : ∃ F : Nat → Card, ∀ i, i < len → ∃ v, w.cell? ((a.add (i * 2)).add 0) = some (.string (F i).uid) ∧ w.cell? ((a.add (i * 2)).add 1) = some v ∧ StrsAt w v (F i).owners ∧ (F i).uid.size ≤ 9223372036854775807 ∧ Small (F i).owners ∧ (F i).owners.length ≤ 9223372036854775807 := by
        refine ⟨fun i => if h : i < len then Classical.choose (two i h) else Card.dflt, fun i hil => ?_⟩
        simp only [dif_pos hil]
        exact Classical.choose_spec (two i hil)
      obtain ⟨F, hF⟩ := hex
      have ha : a = ⟨a.block, a.off, none⟩ := by
        obtain ⟨v, k0, _⟩ := hF 0 (by omega)
        have hq : (a.add (0 * 2)).add 0 = a.add 0 := by
          obtain ⟨b, off, spot⟩ := a
          simp [Addr.add]
        rw [hq] at k0
        exact add_off k0
      have hll : ((List.range len).map F).length = len := by simp
      refine ⟨some a, cap, (List.range len).map F, by rw [hll], .inr ⟨a.block, a.off, cap, by rw [← ha], by omega, by omega, ?_, fun i hi' => ?_⟩⟩
      · obtain ⟨v, k0, _⟩ := hF 0 (by omega)
        rw [ha] at k0
        simp only [Addr.add_lit] at k0
        exact World.block_lt_of_cell? w ⟨a.block, a.off + 0 * 2 + 0, none⟩ k0
      · rw [hll] at hi'
        obtain ⟨v, k0, k1, r⟩ := hF i hi'
        have e : gc ((List.range len).map F) i = F i := by simp [gc, List.getD, hi']
        rw [e]
        rw [ha] at k0 k1
        simp only [Addr.add_lit, Nat.add_zero] at k0 k1
        exact ⟨v, k0, k1, r⟩

set_option maxRecDepth 100000 in
theorem lifted (os : Os) (started : os.Started) (H : Type) (enc : TypeId × Value → H) :
    ReturnsInHanded {} Try.checked os 3 .any (Rows.refsClosedSpec.pre6 enc Try.prog Try.f3 Rows.refsClosedRow.domain false) (Rows.refsClosedSpec.post enc Try.prog Try.f3 false true false false) := by
  refine returnsInHanded_of_change_sized (C := Try.checked) own started (by kernel_rfl) Try.func3
    (ChangeSpec.witness6 (enc := enc) (C := Try.checked) false ⟨#[], #[.slice none 0 0], []⟩ 8 (by kernel_rfl) (by kernel_rfl) (by kernel_rfl) (by kernel_rfl)) ?_
  intro W base args ds gs before hval0 hW hcnd hsz0 _
  have hval : ∀ (j : Nat) t v, Try.f3.params[j]? = some t → args[j]? = some v → Value.okWide Try.prog W .any base t v := hval0
  have hW' := hW
  obtain ⟨p, q, hA0, hV, rfl, hfz, hnd⟩ := hW
  have hA : DataW.TrodAll enc Try.prog W 0 (fun _ => true) true Try.f3.params.toList args.toList ds p := hA0
  rw [Try.params3] at hA hval
  obtain ⟨v0, vs0, d0, ds0, p0, q0, hargs, rfl, rfl, h0, r0⟩ := trodAll_cons hA
  obtain ⟨rfl, rfl, rfl⟩ := trodAll_nil r0
  obtain rfl : args = #[v0] := by cases args; simp_all
  obtain ⟨rfl, rfl⟩ := trodVars_none hV
  obtain ⟨a0, len0, cap0, rfl⟩ := okWide_slice Try.underlying22 (hval 0 22 v0 rfl rfl)
  have k0 := h0
  have lt0 : ∀ x ∈ p0, x.block < W.heap.size := by obtain ⟨m, hm⟩ := k0; exact DataW.trod_lt m _ _ _ hm
  obtain ⟨l, rfl, w0⟩ : ∃ l : List Card, len0 = l.length ∧ CardsAt W (.slice a0 l.length cap0) l := by
    obtain ⟨fuel, hf⟩ := h0
    obtain ⟨a, cap, l, hcs, hl⟩ := open_cards hf
    simp [Value.cells] at hcs
    obtain ⟨rfl, rfl, rfl⟩ := hcs
    exact ⟨l, rfl, hl⟩
  clear hA0 hval0
  refine (closed_any a0 cap0 l W w0).mono fun e W' ⟨he, hch⟩ => ?_
  have bel : Below W.heap.size W W' := hch.below (Nat.le_refl _) (by simp)
  subst he
  exact ⟨_, rfl, _, _, _, [], _, [], hW', trodAll_mk1 (shut_bool Try.underlying4 _), (trodAll_cons_mk (Below.trod laidOut (by kernel_rfl) (of_decide_eq_true (by kernel_rfl)) k0 bel lt0) trodAll_mk0), rfl, bel.frame _, fun h => by cases h⟩

theorem over : Rows.refsClosedRow.holds Try.pinned (OpenSpec.ofChange Rows.refsClosedSpec) :=
  OpenClaim.holds_of_wide 3 Try.f3 rfl rfl rfl rfl rfl rfl rfl ⟨rfl, rfl, rfl, rfl, rfl⟩ rfl rfl rfl rfl rfl (by kernel_rfl) Try.func3 (by kernel_rfl)
    (of_decide_eq_true (by kernel_rfl)) (by unfold Func.isWrapper; first | (rw [if_pos (by decide +kernel)]; kernel_rfl) | (rw [if_neg (by decide +kernel)]; exact ⟨rfl, rfl⟩))
    (fun os started H enc _ => lifted os started H enc)

theorem proved : Rows.RefsClosedSaid := over
#print axioms proved
end Go.Proofs.Ytfdfljcieeccbaa.refsClosed

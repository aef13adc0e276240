/- FlowWhole: for every input it returns true, and its arguments read as they did. Conditions: none. -/
import Derived.Test.YtdpkplnffemmgaaRows
import Derived.Test.YtdpkplnffemmgaaWhWalk
import Derived.WalkKit
import Derived.ProofKit
import Derived.OpenShut
import Derived.ShutString
import Derived.ChangeOld
import Derived.Below
import Derived.SizedLaws
import Derived.Deep.Slices
namespace Go.Proofs.Ytdpkplnffemmgaa.flowWhole
open Go.ChangeShapes Go.WideShapes Go.ChangeAt Go.RowKit
open Go.ChangeMaps (open_string shut_string)
set_option linter.unusedVariables false

theorem own : ownKnob Try.prog.godebug = none := by kernel_rfl
theorem laidOut : laidOutB Try.prog = true := by kernel_rfl
theorem bytes37 : Try.prog.bytesOf 37 = 32 := by kernel_rfl
theorem cells37 : Try.prog.cellsOf 37 = 4 := by kernel_rfl
theorem cells3 : Try.prog.cellsOf 3 = 1 := by kernel_rfl
theorem field0 : ∃ (fs : Array Field) (f0 f1 f2 f3 : Field), Try.prog.underlying 37 = some (.struct fs) ∧ fs[0]? = some f0 ∧ fs[1]? = some f1 ∧ fs[2]? = some f2 ∧ fs[3]? = some f3 ∧
    f0.type = 3 ∧ f1.type = 3 ∧ f2.type = 3 ∧ f3.type = 3 ∧ f0.offset = 0 ∧ f1.offset = 1 ∧ f2.offset = 2 ∧ f3.offset = 3 :=
  ⟨_, _, _, _, _, Try.underlying37, rfl, rfl, rfl, rfl, rfl, rfl, rfl, rfl, rfl, rfl, rfl, rfl⟩

def IsRow (k : IntKind) (w : World) (a : Option Addr) (len cap : Nat) (zs : List Int) : Prop :=
  (a = none ∧ len = 0 ∧ cap = 0 ∧ zs = []) ∨
  ∃ x, a = some x ∧ len ≤ cap ∧ cap ≤ maxLen ∧ zs.length = cap ∧ (∀ i, i < zs.length → w.cell? (x.add i) = some (.int k (zs.getD i 0))) ∧ ∀ n ∈ zs, (Lit.int k n).wf = true

/-- the steps that came in. -/
def IsSteps (w : World) (a : Option Addr) (len cap : Nat) : Prop := len ≤ cap ∧ cap ≤ 9223372036854775807 ∧ len ≤ 4398046510976 ∧ ∀ i, i < len → ∃ x, StepAt w a i x

theorem add_off {w : World} {a : Addr} {v : Value} (h : w.cell? (a.add 0) = some v) : a = ⟨a.block, a.off, none⟩ := by
  obtain ⟨b, off, spot⟩ := a
  have h1 := World.cell?_spot h
  have : spot = none := by simpa [Addr.add] using h1
  rw [this]

theorem new_large2 (a : Option Addr) (n cap : Nat) (w : World) (hn : 8 < n) (hc : n ≤ 9223372036854775807) :
   Calls Try.prog 6 #[.slice a n cap] w fun e w' => e = .returned (.tuple #[.pointer none, .int .i64 2]) ∧ w = w' := by
  go_enter Try.func6, Try.ntmps6
  go_wp2_with fail
  go_ret2
  exact ⟨rfl, rfl⟩

theorem open_steps {H : Type} {enc : TypeId × Value → H} {w : World} {spare : Nat → Bool} {held : Bool} {fuel : Nat} {cs : List Value} {x : DataW H × List MemPlace}
    (h : DataW.trod enc Try.prog w 0 spare held fuel 33 cs = some x) (hsz : ∀ elems rest, x.1 = .slice elems rest → (elems.length + rest.length) * 32 ≤ 140737488351232) :
    ∃ a len cap, cs = [.slice a len cap] ∧ IsSteps w a len cap := by
  rcases Go.Deep.open_slice Try.underlying33 h with ⟨rfl, _⟩ | ⟨a, len, cap, m, n, D, Pl, rfl, hb, hl, hm, hmm, hx, hi⟩
  · exact ⟨none, 0, 0, rfl, by omega, by omega, by omega, fun i hi => by omega⟩
  · have hlm : len ≤ m := by rw [hmm]; split <;> omega
    have h1 := hsz _ _ (by rw [hx])
    simp at h1
    unfold maxLen at hm
    have four : ∀ i, i < len → ∃ y0 y1 y2 y3 : Int, w.cell? ((a.add (i * 4)).add 0) = some (.int .i64 y0) ∧ w.cell? ((a.add (i * 4)).add 1) = some (.int .i64 y1) ∧ w.cell? ((a.add (i * 4)).add 2) = some (.int .i64 y2) ∧ w.cell? ((a.add (i * 4)).add 3) = some (.int .i64 y3) := by
      intro i hil
      obtain ⟨cs', hc, ht⟩ := hi i (by omega)
      rw [cells37] at hc
      obtain ⟨fs, f0, f1, f2, f3, hu, g0, g1, g2, g3, t0, t1, t2, t3, o0, o1, o2, o3⟩ := field0
      obtain ⟨xs, n', _, _, _, hxl, hf⟩ := DataW.trod_struct hu ht
      obtain ⟨_, hcl, hat⟩ := World.cells?_some hc
      have field : ∀ (j : Nat) (f : Field), fs[j]? = some f → f.type = 3 → f.offset = j → j < 4 → ∃ y : Int, w.cell? ((a.add (i * 4)).add j) = some (.int .i64 y) := by
        intro j f hj ht3 ho hj4
        have h2 := hf j f hj
        have hlt : j < xs.length := by rw [hxl]; exact (Array.getElem?_eq_some_iff.1 hj).1
        rw [ht3, ho, cells3, List.getElem?_eq_getElem hlt] at h2
        obtain ⟨y, hy, _, _⟩ := DataW.trod_int Try.underlying3 h2
        refine ⟨y, ?_⟩
        rw [hat j hj4]
        have h3 : ((cs'.drop j).take 1)[0]? = some (.int .i64 y) := by rw [hy]; rfl
        rw [List.getElem?_take, if_pos (by omega), List.getElem?_drop] at h3
        simpa using h3
      obtain ⟨y0, k0⟩ := field 0 f0 g0 t0 o0 (by omega)
      obtain ⟨y1, k1⟩ := field 1 f1 g1 t1 o1 (by omega)
      obtain ⟨y2, k2⟩ := field 2 f2 g2 t2 o2 (by omega)
      obtain ⟨y3, k3⟩ := field 3 f3 g3 t3 o3 (by omega)
      exact ⟨y0, y1, y2, y3, k0, k1, k2, k3⟩
    refine ⟨some a, len, cap, rfl, hl, by omega, by omega, fun i hil => ?_⟩
    have ha : a = ⟨a.block, a.off, none⟩ := by
      obtain ⟨y0, _, _, _, k0, _⟩ := four 0 (by omega)
      have hq : (a.add (0 * 4)).add 0 = a.add 0 := by
        obtain ⟨b, off, spot⟩ := a
        simp [Addr.add]
      rw [hq] at k0
      exact add_off k0
    obtain ⟨y0, y1, y2, y3, k0, k1, k2, k3⟩ := four i hil
    refine ⟨⟨y0, y1, y2, y3⟩, a.block, a.off, by rw [← ha], ?_⟩
    rw [ha] at k0 k1 k2 k3
    simp only [Addr.add_lit] at k0 k1 k2 k3
    exact ⟨World.block_lt_of_cell? w ⟨a.block, a.off + i * 4 + 0, none⟩ k0, k0, k1, k2, k3⟩

theorem walk (a0 : Option Addr) (len0 cap0 : Nat) (z0 : List Int) (a1 : Option Addr) (len1 cap1 : Nat) (w : World) (w0 : IsRow .i64 w a0 len0 cap0 z0) (w1 : IsSteps w a1 len1 cap1) :
    Calls Try.prog 4 #[.slice a0 len0 cap0, .slice a1 len1 cap1] w fun e w' => e = .returned (.bool true) ∧ Below w.heap.size w w' := by
  obtain ⟨l1, c1, r1, s1⟩ := w1
  rcases w0 with ⟨rfl, rfl, rfl, rfl⟩ | ⟨x, rfl, hl, hm, hz, hc, hwf⟩
  · exact whole_bad none 0 0 _ w 1 (by decide) (new_none none 0 w)
  · unfold maxLen at hm
    by_cases h0 : len0 = 0
    · subst h0
      exact whole_bad (some x) 0 cap0 _ w 1 (by decide) (new_none (some x) cap0 w)
    · by_cases h8 : 8 < len0
      · exact whole_bad (some x) len0 cap0 _ w 2 (by decide) (new_large2 (some x) len0 cap0 w h8 (by omega))
      · obtain ⟨b, off, rfl, hcell⟩ := ints_at hc (by omega)
        have hlen : (z0.take len0).length = len0 := by simp; omega
        have hcs : ∀ i, i < len0 → w.cell? ⟨b, off + i, none⟩ = some (.int .i64 ((z0.take len0).getD i 0)) := fun i hi => by
          rw [hcell i (by omega)]; simp [List.getD, hi]
        by_cases hws : (z0.take len0).all wOk = true
        · exact whole_good (some ⟨b, off, none⟩) len0 cap0 len1 cap1 (z0.take len0) a1 w hlen (by omega) (by omega) hws l1 c1 r1 s1 (new_good b off len0 cap0 _ w hlen (by omega) (by omega) hl (by omega) (World.block_lt_of_cell? w _ (hcs 0 (by omega))) hcs hws)
        · exact whole_bad (some ⟨b, off, none⟩) len0 cap0 _ w 1 (by decide) (new_bad b off len0 cap0 _ w hlen (by omega) (by omega) hl (by omega) hcs (by simpa using hws))

set_option maxRecDepth 100000 in
theorem lifted (os : Os) (started : os.Started) (H : Type) (enc : TypeId × Value → H) :
    ReturnsInHanded {} Try.checked os 4 .any (Rows.flowWholeSpec.pre6 enc Try.prog Try.f4 Rows.flowWholeRow.domain false) (Rows.flowWholeSpec.post enc Try.prog Try.f4 false true false false) := by
  refine returnsInHanded_of_change_sized (C := Try.checked) own started (by kernel_rfl) Try.func4
    (ChangeSpec.witness6 (enc := enc) (C := Try.checked) false ⟨#[], #[.slice none 0 0, .slice none 0 0], []⟩ 8 (by kernel_rfl) (by kernel_rfl) (by kernel_rfl) (by kernel_rfl)) ?_
  intro W base args ds gs before hval0 hW hcnd hsz0 _
  have hval : ∀ (j : Nat) t v, Try.f4.params[j]? = some t → args[j]? = some v → Value.okWide Try.prog W .any base t v := hval0
  have hsz : (DataW.weightsEach Try.prog (Try.f4.params.toList ++ Rows.flowWholeSpec.plain.varTypes Try.prog) (ds ++ gs)).all (· ≤ reachBytes) = true := hsz0
  have hW' := hW
  obtain ⟨p, q, hA0, hV, rfl, hfz, hnd⟩ := hW
  have hA : DataW.TrodAll enc Try.prog W 0 (fun _ => true) true Try.f4.params.toList args.toList ds p := hA0
  rw [Try.params4] at hA hval hsz
  obtain ⟨v0, vs0, d0, ds0, p0, q0, hargs, rfl, rfl, h0, r0⟩ := trodAll_cons hA
  obtain ⟨v1, vs1, d1, ds1, p1, q1, rfl, rfl, rfl, h1, r1⟩ := trodAll_cons r0
  obtain ⟨rfl, rfl, rfl⟩ := trodAll_nil r1
  obtain rfl : args = #[v0, v1] := by cases args; simp_all
  obtain ⟨rfl, rfl⟩ := trodVars_none hV
  obtain ⟨a0, len0, cap0, rfl⟩ := okWide_slice Try.underlying22 (hval 0 22 v0 rfl rfl)
  have k0 := h0
  have lt0 : ∀ x ∈ p0, x.block < W.heap.size := by obtain ⟨m, hm⟩ := k0; exact DataW.trod_lt m _ _ _ hm
  obtain ⟨z0, w0⟩ : ∃ zs, IsRow .i64 W a0 len0 cap0 zs := by
    obtain ⟨fuel, hf⟩ := h0
    rcases open_ints Try.underlying22 Try.underlying3 (by kernel_rfl) hf with ⟨hcs, _⟩ | ⟨x, l, c, zs, hcs, _, hl, hm, hz, _, hcell, hwz⟩
    · simp [Value.cells] at hcs
      obtain ⟨rfl, rfl, rfl⟩ := hcs
      exact ⟨[], .inl ⟨rfl, rfl, rfl, rfl⟩⟩
    · simp [Value.cells] at hcs
      obtain ⟨rfl, rfl, rfl⟩ := hcs
      exact ⟨zs, .inr ⟨_, rfl, hl, hm, by simpa using hz, hcell, hwz⟩⟩
  obtain ⟨a1, len1, cap1, rfl⟩ := okWide_slice Try.underlying33 (hval 1 33 v1 rfl rfl)
  have k1 := h1
  have lt1 : ∀ x ∈ p1, x.block < W.heap.size := by obtain ⟨m, hm⟩ := k1; exact DataW.trod_lt m _ _ _ hm
  have w1 : IsSteps W a1 len1 cap1 := by
    obtain ⟨fuel, hf⟩ := h1
    obtain ⟨a, len, cap, hcs, hst⟩ := open_steps hf (fun elems rest he => by
      have he' : d1 = .slice elems rest := he
      have := sized_slice hsz (j := 1) (t := 33) (e := 37) (elems := elems) (spare := rest) rfl (by rw [he']; rfl) Try.underlying33
      rw [bytes37] at this
      simpa [reachBytes] using this)
    simp [Value.cells] at hcs
    obtain ⟨rfl, rfl, rfl⟩ := hcs
    exact hst
  clear hA0 hval0
  refine (walk a0 len0 cap0 z0 a1 len1 cap1 W w0 w1).mono fun e W' ⟨he, bel⟩ => ?_
  subst he
  exact ⟨_, rfl, _, _, _, [], _, [], hW', trodAll_mk1 (shut_bool Try.underlying4 _), (trodAll_cons_mk (Below.trod laidOut (by kernel_rfl) (of_decide_eq_true (by kernel_rfl)) k0 bel lt0) (trodAll_cons_mk (Below.trod laidOut (by kernel_rfl) (of_decide_eq_true (by kernel_rfl)) k1 bel lt1) trodAll_mk0)), rfl, bel.frame _, fun h => by cases h⟩

theorem over : Rows.flowWholeRow.holds Try.pinned (OpenSpec.ofChange Rows.flowWholeSpec) :=
  OpenClaim.holds_of_wide 4 Try.f4 rfl rfl rfl rfl rfl rfl rfl ⟨rfl, rfl, rfl, rfl, rfl⟩ rfl rfl rfl rfl rfl (by kernel_rfl) Try.func4 (by kernel_rfl)
    (of_decide_eq_true (by kernel_rfl)) (by unfold Func.isWrapper; first | (rw [if_pos (by decide +kernel)]; kernel_rfl) | (rw [if_neg (by decide +kernel)]; exact ⟨rfl, rfl⟩))
    (fun os started H enc _ => lifted os started H enc)

theorem proved : Rows.FlowWholeSaid := over
#print axioms proved
end Go.Proofs.Ytdpkplnffemmgaa.flowWhole

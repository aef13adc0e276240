/- THE STEPS of FlowFair: an Offer, a Next, in terms of the plain lists; the cost of an element. Conditions: at most 30 things of each flow. -/
import Derived.Test.YtdpkplnffemmgaaOffer
import Derived.Test.YtdpkplnffemmgaaFair
namespace Go.Proofs.Ytdpkplnffemmgaa
open Go.RowKit
/-- a slice of ints that came in. -/
def IntArg (w : World) (ao : Option Addr) (la : Nat) (zs : List Int) : Prop :=
  la ≤ zs.length ∧ ∀ i, i < la → ∃ b off, ao = some ⟨b, off, none⟩ ∧ w.cell? ⟨b, off + i, none⟩ = some (.int .i64 (zs.getD i 0)) ∧ b < w.heap.size ∧ -9223372036854775808 ≤ zs.getD i 0 ∧ zs.getD i 0 ≤ 9223372036854775807
theorem IntArg.chg {w w' : World} {ao : Option Addr} {la : Nat} {zs : List Int} (h : IntArg w ao la zs) (hb : Below w.heap.size w w') : IntArg w' ao la zs :=
  ⟨h.1, fun i hi => by obtain ⟨b, off, e, hc, hs, r⟩ := h.2 i hi; exact ⟨b, off, e, (hb.cell (p := ⟨b, off + i, none⟩) hs).trans hc, Nat.lt_of_lt_of_le hs hb.size, r⟩⟩
theorem IntArg.less {w : World} {ao : Option Addr} {la n : Nat} {zs : List Int} (h : IntArg w ao la zs) (hn : n ≤ la) : IntArg w ao n zs := ⟨Nat.le_trans hn h.1, fun i hi => h.2 i (by omega)⟩
def cst (x : Int) : Int := 1 + x % 1000
theorem cst_bd (x : Int) : 1 ≤ cst x ∧ cst x ≤ 1000 := by unfold cst; omega
def csts (zs : List Int) (n : Nat) : List Int := (zs.take n).map cst
theorem csts_length (zs : List Int) (n : Nat) (h : n ≤ zs.length) : (csts zs n).length = n := by simp [csts]; omega
theorem csts_costs (zs : List Int) (n : Nat) : Costs (csts zs n) := by
  intro x hx
  obtain ⟨y, _, rfl⟩ := List.mem_map.1 hx
  exact cst_bd y
theorem csts_get (zs : List Int) (n i : Nat) (h : n ≤ zs.length) (hi : i < n) : (csts zs n).getD i 0 = cst (zs.getD i 0) := by
  simp [csts, List.getD, hi, show i < zs.length by omega]
theorem cost_any (ao : Option Addr) (la ca i : Nat) (zs : List Int) (w : World) (h : IntArg w ao la zs) (hi : i < la) (hc : la ≤ ca) (hcap : ca ≤ 9223372036854775807) :
   Calls Try.prog 8 #[.slice ao la ca, .int .i64 i] w fun e w' => e = .returned (.int .i64 (cst (zs.getD i 0))) ∧ w = w' := by
  obtain ⟨b, off, rfl, hc, _, h0, h1⟩ := h.2 i hi
  clear h
  generalize zs.getD i 0 = x at *
  have CR := Lib.hid (rest_any x 1000 w (by omega) (by omega) h0 h1)
  have e0 := Int.emod_nonneg x (show (1000 : Int) ≠ 0 by omega)
  have e1 := Int.emod_lt_of_pos x (show (0 : Int) < 1000 by omega)
  go_enter Try.func8, Try.ntmps8
  go_wp2_with fail
  refine CR.out.mono ?_
  rintro e w' ⟨rfl, rfl⟩
  go_wp2_with fail
  go_ret
  exact ⟨rfl, rfl⟩

/-- all of the queue's lies above. -/
def Above (B : Nat) (F : FB) (qv : Value) : Prop := B ≤ F.fb ∧ B ≤ F.wb ∧ B ≤ F.eb ∧ ∀ k, qv.ownBlock = some k → B ≤ k
structure Off1 (w : World) (F : FB) (v u : Int) (A B : List Int) (ia ib : Nat) (W : World) : Prop where
  ex : ∃ qv ts, FairAt W F [v, u] [2520 / v * sumTo A ia, 2520 / u * sumTo B ib] 0 qv ts ∧ HeapN ts ts.length ∧ ts.Perm (offs 0 (2520 / v) A ia ++ offs 1 (2520 / u) B ib) ∧ Above w.heap.size F qv
  below : Below w.heap.size w W

theorem late {c : Int} {A : List Int} (hA : Costs A) (i : Nat) (hi : i ≤ A.length) (h30 : A.length ≤ 30) (hc0 : 252 ≤ c) (hc : c ≤ 2520) : 0 ≤ c * sumTo A i ∧ c * sumTo A i ≤ 75600000 := by
  have h := sumTo_bd hA i hi
  constructor
  · exact Int.mul_nonneg (by omega) (by omega)
  · have h1 : c * sumTo A i ≤ 2520 * sumTo A i := Int.mul_le_mul_of_nonneg_right hc (by omega)
    omega

theorem lies_above {W : World} {B : Nat} {F : FB} {qv qv' : Value} (ha : Above B F qv) (hB : B ≤ W.heap.size) (hl : Lies W qv qv') : Above B F qv' := by
  refine ⟨ha.1, ha.2.1, ha.2.2.1, fun k hk => ?_⟩
  rcases hl with h | h | ⟨g, h, hge⟩
  · exact ha.2.2.2 k (h ▸ hk)
  · rw [h] at hk; cases hk
  · rw [h] at hk; cases hk; omega

theorem offerA {w W : World} {F : FB} {v u : Int} {A B : List Int} {ia ib : Nat} (h : Off1 w F v u A B ia ib W) (hv : 1 ≤ v ∧ v ≤ 10) (hA : Costs A) (hB : Costs B) (hia : ia < A.length) (ha : A.length ≤ 30) (hib : ib ≤ B.length) (hb : B.length ≤ 30) (c : Int) (hc : A.getD ia 0 = c) :
    Calls Try.prog 7 #[.pointer (some ⟨F.fb, 0, none⟩), .int .i64 0, .int .i64 ia, .int .i64 c] W fun e W' => e = .returned (.int .i64 0) ∧ Off1 w F v u A B (ia + 1) ib W' := by
  obtain ⟨⟨qv, ts, hf, hh, hp, hab⟩, hbel⟩ := h
  have hcb := hA.at ia hia
  rw [hc] at hcb
  have hlen : ts.length = ia + ib := by rw [hp.length_eq]; simp [offs_length]
  obtain ⟨hp1, hp2, hp3⟩ := parts v hv.1 hv.2
  have hl := late hA ia (by omega) ha hp2 hp3
  have key := offer_ok F [v, u] [2520 / v * sumTo A ia, 2520 / u * sumTo B ib] 0 qv ts 0 ia c W hf (by simp) hcb.1 hcb.2 (by omega) hh hv.1 hv.2 hl.1 (by show 2520 / v * sumTo A ia ≤ _; omega) (by omega) (by omega)
  refine key.mono ?_
  rintro e W' ⟨rfl, qv', ts', hf', hp', hh', hch, hlies⟩
  have hmx : max (([2520 / v * sumTo A ia, 2520 / u * sumTo B ib] : List Int).getD 0 0) 0 = 2520 / v * sumTo A ia := by
    show max (2520 / v * sumTo A ia) 0 = _
    omega
  rw [hmx] at hf' hp'
  have hst : 2520 / v * sumTo A ia + 2520 * c / ([v, u] : List Int).getD 0 0 = 2520 / v * sumTo A (ia + 1) := by
    show 2520 / v * sumTo A ia + 2520 * c / v = _
    rw [part_of v c hv.1 hv.2, sumTo_succ A ia hia, hc, Int.mul_add]
  rw [hst] at hf'
  refine ⟨rfl, ⟨qv', ts', hf', hh', ?_, lies_above hab hbel.size hlies⟩, hbel.trans (hch.below hbel.size (fun x hx => ?_))⟩
  · rw [offs_succ]
    refine hp'.trans ?_
    refine (List.Perm.append_right _ hp).trans ?_
    rw [List.append_assoc, List.append_assoc]
    exact List.Perm.append_left _ List.perm_append_comm
  · simp at hx
    rcases hx with rfl | rfl | hx
    · exact hab.1
    · exact hab.2.2.1
    · exact hab.2.2.2 x hx

theorem offerB {w W : World} {F : FB} {v u : Int} {A B : List Int} {ia ib : Nat} (h : Off1 w F v u A B ia ib W) (hu : 1 ≤ u ∧ u ≤ 10) (hA : Costs A) (hB : Costs B) (hib : ib < B.length) (hb : B.length ≤ 30) (hia : ia ≤ A.length) (ha : A.length ≤ 30) (c : Int) (hc : B.getD ib 0 = c) :
    Calls Try.prog 7 #[.pointer (some ⟨F.fb, 0, none⟩), .int .i64 1, .int .i64 ib, .int .i64 c] W fun e W' => e = .returned (.int .i64 0) ∧ Off1 w F v u A B ia (ib + 1) W' := by
  obtain ⟨⟨qv, ts, hf, hh, hp, hab⟩, hbel⟩ := h
  have hcb := hB.at ib hib
  rw [hc] at hcb
  have hlen : ts.length = ia + ib := by rw [hp.length_eq]; simp [offs_length]
  obtain ⟨hp1, hp2, hp3⟩ := parts u hu.1 hu.2
  have hl := late hB ib (by omega) hb hp2 hp3
  have key := offer_ok F [v, u] [2520 / v * sumTo A ia, 2520 / u * sumTo B ib] 0 qv ts 1 ib c W hf (by simp) hcb.1 hcb.2 (by omega) hh hu.1 hu.2 hl.1 (by show 2520 / u * sumTo B ib ≤ _; omega) (by omega) (by omega)
  refine key.mono ?_
  rintro e W' ⟨rfl, qv', ts', hf', hp', hh', hch, hlies⟩
  have hmx : max (([2520 / v * sumTo A ia, 2520 / u * sumTo B ib] : List Int).getD 1 0) 0 = 2520 / u * sumTo B ib := by
    show max (2520 / u * sumTo B ib) 0 = _
    omega
  rw [hmx] at hf' hp'
  have hst : 2520 / u * sumTo B ib + 2520 * c / ([v, u] : List Int).getD 1 0 = 2520 / u * sumTo B (ib + 1) := by
    show 2520 / u * sumTo B ib + 2520 * c / u = _
    rw [part_of u c hu.1 hu.2, sumTo_succ B ib hib, hc, Int.mul_add]
  rw [hst] at hf'
  refine ⟨rfl, ⟨qv', ts', hf', hh', ?_, lies_above hab hbel.size hlies⟩, hbel.trans (hch.below hbel.size (fun x hx => ?_))⟩
  · rw [offs_succ]
    refine hp'.trans ?_
    refine (List.Perm.append_right _ hp).trans ?_
    rw [List.append_assoc]
    exact List.Perm.refl _
  · simp at hx
    rcases hx with rfl | rfl | hx
    · exact hab.1
    · exact hab.2.2.1
    · exact hab.2.2.2 x hx

structure Off2 (w : World) (F : FB) (v u : Int) (A B : List Int) (p q : Nat) (W : World) : Prop where
  ex : ∃ now qv ts es, FairAt W F [v, u] es now qv ts ∧ HeapN ts ts.length ∧ ts.Perm ((offs 0 (2520 / v) A A.length).drop p ++ (offs 1 (2520 / u) B B.length).drop q) ∧ Above w.heap.size F qv
  below : Below w.heap.size w W
theorem Off1.off2 {w W : World} {F : FB} {v u : Int} {A B : List Int} (h : Off1 w F v u A B A.length B.length W) : Off2 w F v u A B 0 0 W := by
  obtain ⟨⟨qv, ts, hf, hh, hp, hab⟩, hbel⟩ := h
  exact ⟨⟨0, qv, ts, _, hf, hh, by simpa using hp, hab⟩, hbel⟩

theorem nextNone {w W : World} {F : FB} {v u : Int} {A B : List Int} {p q : Nat} (h : Off2 w F v u A B p q W) (hp : A.length ≤ p) (hq : B.length ≤ q) :
    Calls Try.prog 9 #[.pointer (some ⟨F.fb, 0, none⟩)] W fun e W' => e = .returned (.tuple #[.int .i64 0, .int .i64 0, .bool false]) ∧ W = W' := by
  obtain ⟨⟨now, qv, ts, es, hf, hh, hpm, hab⟩, hbel⟩ := h
  have : ts = [] := by
    have := hpm.length_eq
    simp [offs_length] at this
    exact List.eq_nil_of_length_eq_zero (by omega)
  subst this
  exact next_none F [v, u] es now qv W hf

def NextTo (w : World) (F : FB) (v u : Int) (A B : List Int) (p q : Nat) (e : Ending) (W' : World) : Prop :=
  (p < A.length ∧ e = .returned (.tuple #[.int .i64 p, .int .i64 0, .bool true]) ∧ (q < B.length → 2520 / v * sumTo A p ≤ 2520 / u * sumTo B q) ∧ Off2 w F v u A B (p + 1) q W') ∨
  (q < B.length ∧ e = .returned (.tuple #[.int .i64 q, .int .i64 1, .bool true]) ∧ (p < A.length → 2520 / u * sumTo B q ≤ 2520 / v * sumTo A p) ∧ Off2 w F v u A B p (q + 1) W')
theorem nextSome {w W : World} {F : FB} {v u : Int} {A B : List Int} {p q : Nat} (h : Off2 w F v u A B p q W) (hv : 1 ≤ v ∧ v ≤ 10) (hu : 1 ≤ u ∧ u ≤ 10) (hA : Costs A) (hB : Costs B) (ha : A.length ≤ 30) (hb : B.length ≤ 30) (hpq : p < A.length ∨ q < B.length) :
    Calls Try.prog 9 #[.pointer (some ⟨F.fb, 0, none⟩)] W (NextTo w F v u A B p q) := by
  obtain ⟨⟨now, qv, ts, es, hf, hh, hpm, hab⟩, hbel⟩ := h
  have hlen : ts.length = (A.length - p) + (B.length - q) := by rw [hpm.length_eq]; simp [offs_length]
  obtain ⟨m, hm⟩ : ∃ m, ts.length = m + 1 := ⟨ts.length - 1, by omega⟩
  obtain ⟨qb, cap, rfl⟩ : ∃ qb cap, qv = .slice (some ⟨qb, 0, none⟩) (m + 1) cap := by
    rcases hf.line.owns.2 with ⟨_, h0⟩ | ⟨g, cap, cur, h', _⟩
    · omega
    · exact ⟨g, cap, by rw [h', hm]⟩
  refine (next_some F [v, u] es now qb cap m ts W hf hh (by omega)).mono ?_
  rintro e W' ⟨rfl, ts', hf', hpop, hh', hch⟩
  have hb' : Below w.heap.size w W' := hbel.trans (hch.below hbel.size (fun x hx => by
    simp at hx
    rcases hx with rfl | rfl
    · exact hab.1
    · exact hab.2.2.2 x rfl))
  have hab' : Above w.heap.size F (.slice (some ⟨qb, 0, none⟩) m cap) := ⟨hab.1, hab.2.1, hab.2.2.1, fun k hk => hab.2.2.2 k hk⟩
  rcases pop_which hA hB (by have := parts v hv.1 hv.2; omega) (by have := parts u hu.1 hu.2; omega) hpm hh (by omega) hpop with ⟨h1, h2, h3, h4⟩ | ⟨h1, h2, h3, h4⟩
  · exact .inl ⟨h1, by rw [h2], h3, ⟨⟨_, _, ts', es, hf', hh', h4, hab'⟩, hb'⟩⟩
  · exact .inr ⟨h1, by rw [h2], h3, ⟨⟨_, _, ts', es, hf', hh', h4, hab'⟩, hb'⟩⟩
end Go.Proofs.Ytdpkplnffemmgaa

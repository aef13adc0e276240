/- THE WALK of FlowWhole. Conditions: the weights are ints, the steps four ints each, in memory that the reach allows. -/
import Derived.Test.YtdpkplnffemmgaaWstep
import Derived.BigRegion
namespace Go.Proofs.Ytdpkplnffemmgaa
open Go.RowKit

/-- New refused: the law answers true. -/
theorem whole_bad (ao : Option Addr) (n cap : Nat) (lv : Value) (w : World) (ec : Int) (hec : (ec != 0) = true)
   (CN : Calls Try.prog 6 #[.slice ao n cap] w fun e w' => e = .returned (.tuple #[.pointer none, .int .i64 ec]) ∧ w = w') :
   Calls Try.prog 4 #[.slice ao n cap, lv] w fun e w' => e = .returned (.bool true) ∧ Below w.heap.size w w' := by
  have H := Lib.hid CN
  clear CN
  have CZ := Lib.hid (fun W => new_none none 0 W)
  go_enter Try.func4, Try.ntmps4
  go_wp2_with fail
  refine H.out.mono ?_
  rintro e w' ⟨rfl, rfl⟩
  go_wp2_with fail
  refine (CZ.out _).mono ?_
  rintro e w' ⟨rfl, rfl⟩
  go_wp2_with fail
  go_ret
  exact ⟨rfl, (Below.refl _ _).alloc (Nat.le_refl _) _⟩

/-- append, under a name that the walk does not open. -/
def appWr (ats : Array TypeId) (ty : TypeId) (args : Array Value) : Sem Value := Builtin.append_ ats ty args
theorem appWr_eq (ats : Array TypeId) (ty : TypeId) (cs : Array Bool) (args : Array Value) : builtin .append ats ty cs args = (do pure (.value (← appWr ats ty args))) := rfl
attribute [local go_sem ↓ high] appWr_eq
theorem info22 : (Try.prog.info? 22).map (fun i => (i.zero, i.size, i.bytes)) = some (some (.slice none 0 0), 1, 24) := by kernel_rfl

/-- a step of the law's second argument. -/
structure FStep where
  kind : Int
  flow : Int
  id : Int
  cost : Int
def StepAt (w : World) (lo : Option Addr) (i : Nat) (x : FStep) : Prop :=
  ∃ lb loff, lo = some ⟨lb, loff, none⟩ ∧ lb < w.heap.size ∧ w.cell? ⟨lb, loff + i * 4, none⟩ = some (.int .i64 x.kind) ∧ w.cell? ⟨lb, loff + i * 4 + 1, none⟩ = some (.int .i64 x.flow) ∧
    w.cell? ⟨lb, loff + i * 4 + 2, none⟩ = some (.int .i64 x.id) ∧ w.cell? ⟨lb, loff + i * 4 + 3, none⟩ = some (.int .i64 x.cost)
theorem StepAt.below {w w' : World} {lo : Option Addr} {i : Nat} {x : FStep} (h : StepAt w lo i x) (hb : Below w.heap.size w w') : StepAt w' lo i x := by
  obtain ⟨lb, loff, e, hl, a, b, c, d⟩ := h
  have k : ∀ o, w'.cell? ⟨lb, o, none⟩ = w.cell? ⟨lb, o, none⟩ := fun o => hb.cell (p := ⟨lb, o, none⟩) hl
  exact ⟨lb, loff, e, Nat.lt_of_lt_of_le hl hb.size, (k _).trans a, (k _).trans b, (k _).trans c, (k _).trans d⟩

theorem cell_one_at (W : World) (v : Value) (t : TypeId) : (W.alloc (.cells #[v] t)).cell? ⟨W.heap.size, 0, none⟩ = some v := by simp

theorem frozen_one_at (W : World) (v : Value) (t : TypeId) : (W.alloc (.cells #[v] t)).frozen? ⟨W.heap.size, 0, none⟩ = false := by simp

theorem st_start (ws : List Int) (w w1 : World) (F : FB) (hf : FairAt w1 F ws (List.replicate ws.length 0) 0 (.slice none 0 0) []) (hch : Chg [] w w1) (hb1 : w.heap.size ≤ F.fb) (hb2 : w.heap.size ≤ F.wb) (hb3 : w.heap.size ≤ F.eb) :
    St w.heap.size ⟨F, w1.heap.size, w1.heap.size + 1 + 1 + 1, w1.heap.size + 1 + 1, w1.heap.size + 1⟩ ws 0 0
      ((((w1.alloc (.cells #[.pointer (some ⟨F.fb, 0, none⟩)] 24)).alloc (.cells (madeCells #[.slice none 0 0] ws.length) 22)).alloc (.cells #[.slice (some ⟨w1.heap.size + 1, 0, none⟩) ws.length ws.length] 34)).alloc (.cells #[.int .i64 0] 3)) := by
  have l1 := hf.fbl
  have l2 := hf.wbl
  have l3 := hf.ebl
  have h8 := hf.few
  have c0 : Chg [] w1 ((((w1.alloc (.cells #[.pointer (some ⟨F.fb, 0, none⟩)] 24)).alloc (.cells (madeCells #[.slice none 0 0] ws.length) 22)).alloc (.cells #[.slice (some ⟨w1.heap.size + 1, 0, none⟩) ws.length ws.length] 34)).alloc (.cells #[.int .i64 0] 3)) :=
    ((((Chg.refl [] w1).alloc _).alloc _).alloc _).alloc _
  have hz := hch.size
  have hrow := ((World.ownsRow_lit (base := 0) (e := 22) (size := 1) (w1.alloc (.cells #[.pointer (some ⟨F.fb, 0, none⟩)] 24)) (madeCells #[.slice none 0 0] ws.length) ws.length (Nat.zero_le _) (by unfold maxLen; omega) (by rw [size_madeCells]; simp)).alloc (.cells #[.slice (some ⟨w1.heap.size + 1, 0, none⟩) ws.length ws.length] 34)).alloc (.cells #[.int .i64 0] 3)
  rw [show (w1.alloc (.cells #[.pointer (some ⟨F.fb, 0, none⟩)] 24)).heap.size = w1.heap.size + 1 from by simp, toList_madeCells_one] at hrow
  have q1 : ((((w1.alloc (.cells #[.pointer (some ⟨F.fb, 0, none⟩)] 24)).alloc (.cells (madeCells #[.slice none 0 0] ws.length) 22)).alloc (.cells #[.slice (some ⟨w1.heap.size + 1, 0, none⟩) ws.length ws.length] 34)).alloc (.cells #[.int .i64 0] 3)).cell? ⟨w1.heap.size, 0, none⟩ = some (.pointer (some ⟨F.fb, 0, none⟩)) :=
    ((((Chg.refl [] (w1.alloc (.cells #[.pointer (some ⟨F.fb, 0, none⟩)] 24))).alloc _).alloc _).alloc _).cell (by simp) (by simp)
  have y2 : ((w1.alloc (.cells #[.pointer (some ⟨F.fb, 0, none⟩)] 24)).alloc (.cells (madeCells #[.slice none 0 0] ws.length) 22)).heap.size = w1.heap.size + 1 + 1 := by simp
  have q2 : ((((w1.alloc (.cells #[.pointer (some ⟨F.fb, 0, none⟩)] 24)).alloc (.cells (madeCells #[.slice none 0 0] ws.length) 22)).alloc (.cells #[.slice (some ⟨w1.heap.size + 1, 0, none⟩) ws.length ws.length] 34)).alloc (.cells #[.int .i64 0] 3)).cell? ⟨w1.heap.size + 1 + 1, 0, none⟩ = some (.slice (some ⟨w1.heap.size + 1, 0, none⟩) ws.length ws.length) := by
    rw [← y2]
    exact ((Chg.refl [] (((w1.alloc (.cells #[.pointer (some ⟨F.fb, 0, none⟩)] 24)).alloc (.cells (madeCells #[.slice none 0 0] ws.length) 22)).alloc (.cells #[.slice (some ⟨w1.heap.size + 1, 0, none⟩) ws.length ws.length] 34))).alloc _).cell (cell_one_at _ _ _) (by simp)
  have y3 : (((w1.alloc (.cells #[.pointer (some ⟨F.fb, 0, none⟩)] 24)).alloc (.cells (madeCells #[.slice none 0 0] ws.length) 22)).alloc (.cells #[.slice (some ⟨w1.heap.size + 1, 0, none⟩) ws.length ws.length] 34)).heap.size = w1.heap.size + 1 + 1 + 1 := by simp
  have q3 : ((((w1.alloc (.cells #[.pointer (some ⟨F.fb, 0, none⟩)] 24)).alloc (.cells (madeCells #[.slice none 0 0] ws.length) 22)).alloc (.cells #[.slice (some ⟨w1.heap.size + 1, 0, none⟩) ws.length ws.length] 34)).alloc (.cells #[.int .i64 0] 3)).cell? ⟨w1.heap.size + 1 + 1 + 1, 0, none⟩ = some (.int .i64 0) := by
    rw [← y3]; exact cell_one_at _ _ _
  have q4 : ((((w1.alloc (.cells #[.pointer (some ⟨F.fb, 0, none⟩)] 24)).alloc (.cells (madeCells #[.slice none 0 0] ws.length) 22)).alloc (.cells #[.slice (some ⟨w1.heap.size + 1, 0, none⟩) ws.length ws.length] 34)).alloc (.cells #[.int .i64 0] 3)).frozen? ⟨w1.heap.size + 1 + 1 + 1, 0, none⟩ = false := by
    rw [← y3]; exact frozen_one_at _ _ _
  refine ⟨⟨fun x => if x = F.fb ∨ x = F.wb ∨ x = F.eb then 1 else if x = w1.heap.size then 2 else if x = w1.heap.size + 1 + 1 + 1 then 3 else if x = w1.heap.size + 1 + 1 then 4 else if x = w1.heap.size + 1 then 5 else 0,
    .slice none 0 0, List.replicate ws.length (.slice none 0 0), List.replicate ws.length 0, 0, [], List.replicate ws.length [], ?_, rfl, ?_, by simp, by omega, by omega, ?_⟩⟩
  · refine ⟨hf.chg c0 (by simp) (by simp) (by simp) (by simp), fun k h0 hk => by simp at hk, q1, q3, q4, q2, hrow, by simp, fun k hk => ?_, ?_, by simp [Value.ownBlock], ?_, fun k hk g hg => ?_, fun x hx => ?_⟩
    · simp [List.getD, hk]; exact WaitAt.nil _
    · simp
    · refine ⟨?_, ?_, ?_, ?_⟩
      · dsimp only; rw [if_neg (by omega), if_pos rfl]
      · dsimp only; rw [if_neg (by omega), if_neg (by omega), if_pos rfl]
      · dsimp only; rw [if_neg (by omega), if_neg (by omega), if_neg (by omega), if_pos rfl]
      · dsimp only; rw [if_neg (by omega), if_neg (by omega), if_neg (by omega), if_neg (by omega), if_pos rfl]
    · simp [List.getD, hk, Value.ownBlock] at hg
    · have hsz : (((((w1.alloc (.cells #[.pointer (some ⟨F.fb, 0, none⟩)] 24)).alloc (.cells (madeCells #[.slice none 0 0] ws.length) 22)).alloc (.cells #[.slice (some ⟨w1.heap.size + 1, 0, none⟩) ws.length ws.length] 34)).alloc (.cells #[.int .i64 0] 3))).heap.size = w1.heap.size + 4 := by simp
      rw [hsz]
      by_cases e1 : x = F.fb ∨ x = F.wb ∨ x = F.eb
      · omega
      · rw [if_neg e1] at hx
        by_cases e2 : x = w1.heap.size
        · omega
        · rw [if_neg e2] at hx
          by_cases e3 : x = w1.heap.size + 1 + 1 + 1
          · omega
          · rw [if_neg e3] at hx
            by_cases e4 : x = w1.heap.size + 1 + 1
            · omega
            · rw [if_neg e4] at hx
              by_cases e5 : x = w1.heap.size + 1
              · omega
              · rw [if_neg e5] at hx; exact absurd rfl hx
  · refine ⟨by simp, by simp, by simp, fun k hk t ht => ?_, fun k hk => ?_, fun k hk t ht => ?_⟩
    · simp [List.getD, hk] at ht
    · simp [List.getD, hk]
    · simp [List.getD, hk] at ht
  · intro k hk
    simp [List.getD, hk]

theorem bel_drewN {B : Nat} {a w : World} {n : Nat} (h : Below B a w) : Below B a (w.drewN n) := ⟨h.os, h.tape, h.output, h.size, h.block⟩
def LW2 (w : World) (L : WLay) (ws : List Int) (_ : Value) (wr : World) : Prop := ∃ N m : Nat, St w.heap.size L ws N m wr ∧ m ≤ 64 ∧ Below w.heap.size w wr
/-- what is left to come. -/
def manyOf (L : WLay) (wr : World) : Nat := match wr.cell? ⟨L.bm, 0, none⟩ with | some (.int _ n) => n.toNat | _ => 0
theorem manyOf_st {B0 : Nat} {L : WLay} {ws : List Int} {N m : Nat} {W : World} (h : St B0 L ws N m W) : manyOf L W = m := by
  unfold manyOf; rw [h.boxes.2.1]; simp

def LW (w : World) (L : WLay) (ws : List Int) (nl : Nat) (vi : Value) (wr : World) : Prop :=
  ∃ i N m : Nat, vi = .int .i64 i ∧ i ≤ nl ∧ St w.heap.size L ws N m wr ∧ m ≤ 64 ∧ 2 * N ≤ i + m ∧ Below w.heap.size w wr
set_option maxHeartbeats 2000000 in
set_option maxRecDepth 100000 in
theorem whole_good (ao : Option Addr) (n cap nl cl : Nat) (ws : List Int) (lo : Option Addr) (w : World) (hn : ws.length = n) (h1 : 1 ≤ n) (h8 : n ≤ 8) (hws : ws.all wOk = true)
   (hl : nl ≤ cl) (hcl : cl ≤ 9223372036854775807) (hnl : nl ≤ 4398046510976) (hst : ∀ i, i < nl → ∃ x, StepAt w lo i x)
   (CN : Calls Try.prog 6 #[.slice ao n cap] w (Made ws w)) :
   Calls Try.prog 4 #[.slice ao n cap, .slice lo nl cl] w fun e w' => e = .returned (.bool true) ∧ Below w.heap.size w w' := by
  have H := Lib.hid CN
  clear CN
  have CZ := Lib.hid (fun W => new_none none 0 W)
  have hmk := fun W => run_make_row' (P := Try.prog) 34 22 (.slice none 0 0) 24 Try.underlying34 info22 rfl .i64 .i64 n (by omega) (by omega) W
  have hmf : ∀ (fn : Fn) (first cap : Array Value) (w : World), (Instr.makeFunc fn first cap).run Try.prog w = .ok (.func fn first cap) w := fun _ _ _ _ => rfl
  obtain ⟨i0, hi0, hz0, hz1, hz2⟩ := info_parts info3
  have HST := Lib.hid hst
  have HWS := Lib.hid hws
  have HSS := Lib.hid (st_start ws w)
  rw [hn] at HSS
  have HN := Lib.hid hn
  clear hst hws hn
  go_enter Try.func4, Try.ntmps4
  go_wp2_with fail
  refine H.out.mono ?_
  rintro e w1 ⟨F, rfl, hf, hch, hb1, hb2, hb3⟩
  rw [HN.out] at hf
  have HS0 := Lib.hid (HSS.out w1 F hf hch hb1 hb2 hb3)
  have HB1 := Lib.hid (((((Below.refl _ w).trans (hch.below (Nat.le_refl _) (by simp))).alloc hch.size (.cells #[.pointer (some ⟨F.fb, 0, none⟩)] 24)).alloc (Nat.le_trans hch.size (by simp)) (.cells (madeCells #[.slice none 0 0] n) 22)))
  have hsz1 := hch.size
  clear hf hch hb1 hb2 hb3 H HSS
  go_wp2_with fail
  refine (CZ.out _).mono ?_
  rintro e w' ⟨rfl, rfl⟩
  go_wp2_with fail
  have HB2 := Lib.hid ((HB1.out.alloc (Nat.le_trans hsz1 (by simp; omega)) (.cells #[.slice (some ⟨w1.heap.size + 1, 0, none⟩) n n] 34)).alloc (Nat.le_trans hsz1 (by simp; omega)) (.cells #[.int .i64 0] 3))
  clear HB1 hsz1 hmk hmf CZ
  obtain ⟨L, hL⟩ : ∃ L : WLay, L = ⟨F, w1.heap.size, w1.heap.size + 1 + 1 + 1, w1.heap.size + 1 + 1, w1.heap.size + 1⟩ := ⟨_, rfl⟩
  rw [← hL] at HS0
  have H0 : Hid (LW w L ws nl (.int .i64 0) ((((w1.alloc (.cells #[.pointer (some ⟨F.fb, 0, none⟩)] 24)).alloc (.cells (madeCells #[.slice none 0 0] n) 22)).alloc (.cells #[.slice (some ⟨w1.heap.size + 1, 0, none⟩) n n] 34)).alloc (.cells #[.int .i64 0] 3))) :=
    ⟨0, 0, 0, rfl, by omega, HS0.out, by omega, by omega, HB2.out⟩
  clear HS0 HB2
  have hbf : w1.heap.size = L.bf := by rw [hL]
  have hbm : w1.heap.size + 1 + 1 + 1 = L.bm := by rw [hL]
  have hbw : w1.heap.size + 1 + 1 = L.bw := by rw [hL]
  have hrb : w1.heap.size + 1 = L.rb := by rw [hL]
  have hFF : F = L.F := by rw [hL]
  rw [hbm, hbw, hrb, hbf, hFF]
  rw [hrb, hFF] at H0
  clear hbm hbw hrb hbf hFF hL
  go_loopw [43] (fun vi wr => LW w L ws nl vi wr) (fun vi _ => nl - (intOf vi).toNat)
  case atStart => exact H0.out
  case round =>
    clear H0
    obtain ⟨i, N, m, rfl, hi, hs, hm64, hNm, hbel⟩ := hrel
    have HS := Lib.hid hs
    have HB := Lib.hid hbel
    obtain ⟨b1, b2, b3⟩ := hs.boxes
    have l1 : L.bf < wr.heap.size := World.block_lt_of_cell? wr _ b1
    have l2 : L.bm < wr.heap.size := World.block_lt_of_cell? wr _ b2
    have l3 : L.bw < wr.heap.size := World.block_lt_of_cell? wr _ b3
    clear hs hbel
    by_cases hlt : i < nl
    · obtain ⟨x, hx⟩ := HST.out i hlt
      obtain ⟨lb, loff, rfl, hlb, x0, x1, x2, x3⟩ := hx.below HB.out
      clear hx
      obtain ⟨xk, xf, xi, xc⟩ := x
      dsimp only at x0 x1 x2 x3
      by_cases hodd : (xk.tmod 2 != 0) = true
      · by_cases hm0 : m = 0
        · subst hm0
          have CX := Lib.hid (fun O => next_st0 w.heap.size L ws N (wr.alloc O) (HS.out.chg ((Chg.refl [] wr).alloc O)))
          go_wp2_with fail
          refine (CX.out _).mono ?_
          rintro e w' ⟨rfl, rfl⟩
          go_wp2_with fail
          go_roundw
          case rel => exact ⟨i + 1, N, 0, by go_num, by omega, HS.out.chg ((Chg.refl [] wr).alloc _), by omega, by omega, HB.out.alloc HB.out.size _⟩
          case measure => simp [intOf]; omega
        · obtain ⟨m', rfl⟩ : ∃ m', m = m' + 1 := ⟨m - 1, by omega⟩
          clear hm0
          have CX := Lib.hid (fun O => next_st w.heap.size L ws N m' (wr.alloc O) (HS.out.chg ((Chg.refl [] wr).alloc O)) (by omega) (by have := HN.out; omega))
          go_wp2_with fail
          refine (CX.out _).mono ?_
          rintro e w' ⟨rfl, hs', hb'⟩
          have HS' := Lib.hid hs'
          have HB' := Lib.hid hb'
          clear hs' hb'
          go_wp2_with fail
          go_roundw
          case rel => exact ⟨i + 1, N, m', by go_num, by omega, HS'.out, by omega, by omega, (HB.out.alloc HB.out.size _).trans HB'.out⟩
          case measure => simp [intOf]; omega
      · have hev : (xk.tmod 2 != 0) = false := by simpa using hodd
        clear hodd
        have CW := Lib.hid (fun W (hW : Chg [] wr W) => waits_st (HS.out.chg hW))
        have hmm : ((m : Int) != (m : Int)) = false := by simp
        by_cases hfl : xf < 0 ∨ (n : Int) ≤ xf
        · have CO := Lib.hid (fun O => offer_st_none (HS.out.chg ((Chg.refl [] wr).alloc O)) xf xi xc (by have := HN.out; omega))
          go_wp2_with fail
          refine (CO.out _).mono ?_
          rintro e w' ⟨rfl, rfl⟩
          go_wp2_with fail
          go_quiet ((go_at_call 11; exact Calls.quiet_of_same ((CW.out _ (((Chg.refl [] wr).alloc _).drewN _)).mono fun e w' h => ⟨h.1, h.2.symm⟩)))
          go_wp2_with fail
          go_roundw
          case rel => exact ⟨i + 1, N, m, by go_num, by omega, HS.out.chg (((Chg.refl [] wr).alloc _).drewN _), by omega, by omega, ⟨HB.out.os, HB.out.tape, HB.out.output, (HB.out.alloc HB.out.size _).size, (HB.out.alloc HB.out.size _).block⟩⟩
          case measure => simp [intOf]; omega
        · obtain ⟨k, rfl⟩ : ∃ k : Nat, xf = (k : Int) := ⟨xf.toNat, by omega⟩
          have hk : k < n := by omega
          clear hfl
          have f1 : decide ((k : Int) < 0) = false := decide_eq_false (by omega)
          have f2 : decide (n ≤ k) = false := decide_eq_false (by omega)
          by_cases hcost : xc < 1 ∨ 1000 < xc
          · have CO := Lib.hid (fun O => offer_st_arg (HS.out.chg ((Chg.refl [] wr).alloc O)) k xi xc (by have := HN.out; omega) hcost)
            clear hcost
            go_wp2_with fail
            refine (CO.out _).mono ?_
            rintro e w' ⟨rfl, rfl⟩
            go_wp2_with fail
            go_quiet ((go_at_call 11; exact Calls.quiet_of_same ((CW.out _ (((Chg.refl [] wr).alloc _).drewN _)).mono fun e w' h => ⟨h.1, h.2.symm⟩)))
            go_wp2_with fail
            go_roundw
            case rel => exact ⟨i + 1, N, m, by go_num, by omega, HS.out.chg (((Chg.refl [] wr).alloc _).drewN _), by omega, by omega, ⟨HB.out.os, HB.out.tape, HB.out.output, (HB.out.alloc HB.out.size _).size, (HB.out.alloc HB.out.size _).block⟩⟩
            case measure => simp [intOf]; omega
          · by_cases h64 : m = 64
            · subst h64
              have CO := Lib.hid (fun O => offer_st_full (HS.out.chg ((Chg.refl [] wr).alloc O)) k xi xc (by have := HN.out; omega) (by omega) (by omega))
              clear hcost
              go_wp2_with fail
              refine (CO.out _).mono ?_
              rintro e w' ⟨rfl, rfl⟩
              go_wp2_with fail
              go_quiet ((go_at_call 11; exact Calls.quiet_of_same ((CW.out _ (((Chg.refl [] wr).alloc _).drewN _)).mono fun e w' h => ⟨h.1, h.2.symm⟩)))
              go_wp2_with fail
              go_roundw
              case rel => exact ⟨i + 1, N, 64, by go_num, by omega, HS.out.chg (((Chg.refl [] wr).alloc _).drewN _), by omega, by omega, ⟨HB.out.os, HB.out.tape, HB.out.output, (HB.out.alloc HB.out.size _).size, (HB.out.alloc HB.out.size _).block⟩⟩
              case measure => simp [intOf]; omega
            · have CO := Lib.hid (fun O => offer_st_ok HS.out (O := O) rfl HWS.out (by omega) k xi xc (by have := HN.out; omega) (by omega) (by omega) (by omega))
              clear hcost
              go_wp2_with fail
              refine (CO.out _).mono ?_
              rintro e W1 ⟨rfl, ho⟩
              obtain ⟨vk, ids, hvk, hwt, hids, hstep⟩ := ho.ex
              obtain ⟨va, vc, rfl⟩ := hwt.shape
              have y1 := (ho.kept 1).trans (show (wr.alloc _).cell? ⟨wr.heap.size, 1, none⟩ = some (.int .i64 (k : Int)) from by simp)
              have y2 := (ho.kept 2).trans (show (wr.alloc _).cell? ⟨wr.heap.size, 2, none⟩ = some (.int .i64 xi) from by simp)
              have ycw := ho.cw
              have HWT := Lib.hid hwt
              have HSTEP := Lib.hid hstep
              have HO := Lib.hid ho
              clear hwt hstep ho
              have hxb : wr.heap.size < W1.heap.size := World.block_lt_of_cell? W1 _ y1
              have hlw : L.bw < W1.heap.size := World.block_lt_of_cell? W1 _ ycw
              have hlr : L.rb < W1.heap.size := World.block_lt_of_cell? W1 _ hvk
              rw [HN.out] at ycw
              go_wp2_with fail
              obtain ⟨v', W3, hrun, hw3, hg3, hl3, hne3⟩ := run_wait (P := Try.prog) ((W1.alloc (.cells #[.int .i64 xi] 3)).drew) 22 22 i0 Try.underlying22 hi0 hz0 hz1 hz2 (.slice va ids.length vc) ids (HWT.out.chg (((Chg.refl [] W1).alloc _).drew) (by simp)) hids xi ⟨W1.heap.size, 0, none⟩ (by simp)
              obtain ⟨hf1, hf2, hf3, hf4, hf5, hf6, hf7, hf8, hf9⟩ := HSTEP.out _ W3 v' (((Chg.refl [] W1).alloc _).drew) hg3 hw3 hl3
              rw [HN.out] at hf2
              obtain ⟨a', c', rfl⟩ := hw3.shape
              have hrun' : (appWr #[22, 22] 22 #[.slice va ids.length vc, .slice (some ⟨W1.heap.size, 0, none⟩) 1 1]).run Try.prog ((W1.alloc (.cells #[.int .i64 xi] 3)).drew) = .ok (.slice a' (ids ++ [xi]).length c') W3 := hrun
              have HF8 := Lib.hid hf8
              have HF9 := Lib.hid hf9
              clear hrun hw3 hg3 hl3 hne3 hf8 hf9
              rw [List.length_append, List.length_singleton] at hrun'
              rw [List.length_append, List.length_singleton] at HF8 HF9
              have yb := HF8.out.boxes.1
              have CW2 : Hid (∀ W, Chg [] ((W3.setCell ⟨L.rb, k, none⟩ (.slice a' (ids.length + 1) c')).setCell ⟨L.bm, 0, none⟩ (.int .i64 ((m : Int) + 1))) W → Calls Try.prog 11 #[.pointer (some ⟨L.F.fb, 0, none⟩)] W fun e W' => e = .returned (.int .i64 ((m : Int) + 1)) ∧ W = W') := fun W hW => by
                have := waits_st (HF8.out.chg hW)
                rw [show ((m + 1 : Nat) : Int) = (m : Int) + 1 from by omega] at this
                exact this
              have hmm2 : ((m : Int) + 1 != (m : Int) + 1) = false := by simp
              have hm1 : (m : Int) + 1 ≤ 64 := by omega
              have hm0 : (0 : Int) ≤ (m : Int) := by omega
              go_region
              all_goals go_wp2_with fail
              go_quiet ((go_at_call 11; exact Calls.quiet_of_same ((CW2.out _ ((Chg.refl [] _).drewN _)).mono fun e w' h => ⟨h.1, h.2.symm⟩)))
              go_wp2_with fail
              go_roundw
              case rel =>
                exact ⟨i + 1, N + 1, m + 1, by go_num, by omega, HF8.out.chg ((Chg.refl [] _).drewN _), by omega, by omega, bel_drewN ((((HB.out.alloc HB.out.size _).trans HO.out.below).alloc (Nat.le_trans HB.out.size (Nat.le_trans (by simp) HO.out.size)) _).drew.trans HF9.out)⟩
              case measure => simp [intOf]; omega
    · have H2 : Hid (∀ v, LW2 w L ws v wr) := fun _ => ⟨N, m, HS.out, hm64, HB.out⟩
      clear HS HB b1 b2 b3 l1 l2 l3
      obtain ⟨wo, rfl⟩ : ∃ wo : World, wo = wr := ⟨_, rfl⟩
      go_wp2_with fail
      go_loopw [93] (fun v wr => LW2 w L ws v wr) (fun _ wr => manyOf L wr)
      case atStart => exact H2.out _
      case round =>
        clear H2
        obtain ⟨N', m', hs', hm', hb'⟩ := hrel
        have HS' := Lib.hid hs'
        have HB' := Lib.hid hb'
        obtain ⟨b1, b2, b3⟩ := hs'.boxes
        clear hs' hb'
        by_cases hm0 : m' = 0
        · subst hm0
          have CX := Lib.hid (next_st0 w.heap.size L ws N' wr HS'.out)
          go_wp2_with fail
          refine CX.out.mono ?_
          rintro e w' ⟨rfl, rfl⟩
          go_wp2_with fail
          go_ret
          exact ⟨rfl, HB'.out⟩
        · obtain ⟨k', rfl⟩ : ∃ k', m' = k' + 1 := ⟨m' - 1, by omega⟩
          clear hm0
          have CX := Lib.hid (next_st w.heap.size L ws N' k' wr HS'.out (by omega) (by have := HN.out; omega))
          go_wp2_with fail
          refine CX.out.mono ?_
          rintro e w' ⟨rfl, hs2, hb2⟩
          have HS2 := Lib.hid hs2
          have HB2 := Lib.hid hb2
          clear hs2 hb2
          go_wp2_with fail
          go_roundw
          case rel => exact ⟨N', k', HS2.out, by omega, HB'.out.trans HB2.out⟩
          case measure => rw [manyOf_st HS2.out, manyOf_st HS'.out]; omega
end Go.Proofs.Ytdpkplnffemmgaa

/- THE WALK of RefsClosed. Conditions: the cards hold in memory what they say. -/
import Derived.Test.YtfdfljcieeccbaaClosed
import Derived.BigRegion
namespace Go.Proofs.Ytfdfljcieeccbaa
open Go.RowKit
attribute [local go_sem ↓ high] appWr_eq
theorem CardsAt.shape {w : World} {v : Value} {l : List Card} (h : CardsAt w v l) : ∃ a c, v = .slice a l.length c := by
  rcases h with ⟨a, c, rfl, rfl⟩ | ⟨b, off, c, rfl, _⟩
  · exact ⟨a, c, rfl⟩
  · exact ⟨_, c, rfl⟩
theorem uids_succ (l : List Card) (i : Nat) (h : i < l.length) : uids (l.take (i + 1)) = uids (l.take i) ++ [(gc l i).uid] := by
  rw [take_succ_gc l i h]; simp [uids]
def Cl1 (B : World) (r : List Card) (vi vu : Value) (wr : World) : Prop := ∃ i : Nat, vi = .int .i64 i ∧ i ≤ r.length ∧ Chg [] B wr ∧ SlAt wr vu (uids (r.take i)) ∧ ∀ k, vu.ownBlock = some k → B.heap.size ≤ k
def Cl2 (B : World) (r : List Card) (vi : Value) (wr : World) : Prop := ∃ i : Nat, vi = .int .i64 i ∧ i ≤ r.length ∧ Chg [] B wr
def Cl3 (W : World) (us os : List ByteArray) (vj vb : Value) (wr : World) : Prop := ∃ (j : Nat) (b : Bool), vj = .int .i64 j ∧ vb = .bool b ∧ j ≤ os.length ∧ (b = true ↔ os.length = 0 ∨ ∃ k, k < j ∧ inB (os.getD k ByteArray.empty) us = true) ∧ W = wr
set_option maxHeartbeats 4000000 in
theorem closed_any (a : Option Addr) (cap : Nat) (l : List Card) (w : World) (h : CardsAt w (.slice a l.length cap) l) :
    Calls Try.prog 3 #[.slice a l.length cap] w fun e w' => e = .returned (.bool true) ∧ Chg [] w w' := by
  have CG := Lib.hid (garbage_any a cap l w h)
  have HA := Lib.hid h
  clear h
  go_enter Try.func3, Try.ntmps3
  go_wp2_with fail
  refine CG.out.mono ?_
  rintro e w1 ⟨hc1, ⟨hck, rfl⟩ | ⟨hck, v, P, P', rfl, hst, hpm, hgi⟩⟩
  · have CO := Lib.hid (odd_any w1)
    have hne : (checkE l != 0) = true := by simpa using hck
    have HC1 := Lib.hid hc1
    clear CG hck hc1
    go_wp2_with fail
    refine CO.out.mono ?_
    rintro e w2 ⟨rfl, hc2⟩
    have HC2 := Lib.hid (HC1.out.trans hc2)
    have C8 := Lib.hid (check8_any a cap l w2 (HA.out.chg HC2.out))
    clear CO hc2
    go_wp2_with fail
    refine C8.out.mono ?_
    rintro e w3 ⟨rfl, hc3⟩
    go_wp2_with fail
    go_ret
    exact ⟨rfl, HC2.out.trans hc3⟩
  · obtain ⟨ag, cg, rfl⟩ := hst.shape
    have CO := Lib.hid (odd_any w1)
    have HC1 := Lib.hid hc1
    have HST := Lib.hid hst
    have HPM := Lib.hid hpm
    have HGI := Lib.hid hgi
    have HG := Lib.hid ((good_iff l).1 hck)
    clear CG hck hc1 hst hpm hgi
    go_wp2_with fail
    refine CO.out.mono ?_
    rintro e w2 ⟨rfl, hc2⟩
    have HC2 := Lib.hid (HC1.out.trans hc2)
    have CW := Lib.hid (without_any a cap l _ P' w2 (HA.out.chg HC2.out) (by have := HG.out.len; omega) (HST.out.chg hc2 (fun _ _ _ _ _ => by simp)))
    clear CO hc2
    go_wp2_with fail
    refine CW.out.mono ?_
    rintro e w3 ⟨vr, rfl, hr, hc3⟩
    rw [rest_perm l HPM.out] at hr
    have hgr : Good (rest l P) := HG.out.filter _
    have hcnt := rest_count l P HG.out.uids (by have := HGI.out.nodup; simpa using this) (fun s hs => ((HGI.out.free s).1 hs).there)
    rw [← HPM.out.length_eq] at hcnt
    have hlo := fun c (hc : c ∈ rest l P) => left_owned HGI.out hc
    have hln := fun Q (k : GInv (rest l P) Q []) => left_none HGI.out k
    obtain ⟨r, hrr⟩ : ∃ r, rest l P = r := ⟨_, rfl⟩
    rw [hrr] at hr hgr hcnt hlo hln
    obtain ⟨ar, cr, rfl⟩ := hr.shape
    have CG2 := Lib.hid (garbage_any ar cr r w3 hr)
    have HR := Lib.hid hr
    have HGR := Lib.hid hgr
    have HLO := Lib.hid hlo
    have HLN := Lib.hid hln
    have HC3 := Lib.hid (HC2.out.trans hc3)
    have hlr := hgr.len
    have hll := HG.out.len
    clear CW hc3 hr hgr hlo hln hrr
    go_wp2_with fail
    refine CG2.out.mono ?_
    rintro e w4 ⟨hc4, ⟨hck, rfl⟩ | ⟨hck, v4, Q, Q', rfl, hst4, hpm4, hgi4⟩⟩
    · exact absurd ((good_iff r).2 HGR.out) hck
    · obtain rfl := HLN.out Q hgi4
      obtain rfl := List.Perm.eq_nil hpm4
      obtain ⟨a4, cc4, rfl⟩ := hst4.shape
      have hsum : ((r.length : Int) + (P'.length : Int)) = (l.length : Int) := by omega
      have HC4 := Lib.hid (HC3.out.trans hc4)
      have HR4 := Lib.hid (HR.out.chg hc4)
      have H0 : Hid (Cl1 w4 r (.int .i64 0) (.slice none 0 0) w4) := ⟨0, rfl, Nat.zero_le _, Chg.refl _ _, SlAt.nil _, fun k hk => by simp [Value.ownBlock] at hk⟩
      clear CG2 hck hst4 hpm4 hgi4 hc4
      go_wp2_with fail
      go_loopw [60, 7] (fun vi vu wr => Cl1 w4 r vi vu wr) (fun vi _ _ => r.length - (intOf vi).toNat)
      case atStart => exact H0.out
      case round =>
        clear H0
        obtain ⟨i, rfl, hi, hch, hsl, hbk⟩ := hrel
        by_cases hlt : i < r.length
        · rcases HR4.out with ⟨a', cap', h1, h2⟩ | ⟨b, off, cap', h1, hl1, hl2, hl3, hat⟩
          · subst h2; simp at hlt
          · injection h1 with h1 h2 h3
            subst h1 h3
            obtain ⟨v, k1, k2, hs, hu, hso, hol⟩ := hat i hlt
            obtain ⟨a2, cap2, rfl⟩ := hs.shape
            have k1' := hch.cell k1 (by simp)
            have k2' := hch.cell k2 (by simp)
            have hul : (uids (r.take i)).length ≤ 1000 := by simp [uids]; omega
            obtain ⟨W, hW⟩ : ∃ W, (wr.alloc (.cells #[.string (gc r i).uid, .slice a2 (gc r i).owners.length cap2] 31)).alloc (.cells #[.string (gc r i).uid] 9) = W := ⟨_, rfl⟩
            have wO : Chg [] wr W := by rw [← hW]; exact ((Chg.refl [] wr).alloc _).alloc _
            have hxW : W.cell? ⟨wr.heap.size + 1, 0, none⟩ = some (.string (gc r i).uid) := by rw [← hW]; simp
            obtain ⟨v7, w7, r7, s7, g7, L7⟩ := run_sl W 23 _ _ (hsl.chg wO (by simp)) hul (gc r i).uid ⟨wr.heap.size + 1, 0, none⟩ hxW
            obtain ⟨au, cu, hvu⟩ := hsl.shape
            subst hvu
            have hab := L7.above (n := w4.heap.size) (by have := hch.size; have := wO.size; omega) hbk
            have r7' : (appWr #[23, 23] 23 #[.slice au (uids (r.take i)).length cu, .slice (some ⟨wr.heap.size + 1, 0, none⟩) 1 1]).run Try.prog W = .ok v7 w7 := r7
            have hc7 : Chg [] w4 w7 := (hch.trans wO).grown g7 (fun k hk => .inr (hbk k hk))
            rw [← uids_succ r i hlt] at s7
            have HS7 := Lib.hid s7
            have HC7 := Lib.hid hc7
            have HAB := Lib.hid hab
            clear r7 s7 hc7 hab L7 g7 wO hxW hch hsl hbk hs hso hat k1 k2
            subst hW
            go_wp2_with fail
            go_roundw
            case rel => exact ⟨i + 1, by go_num, by omega, HC7.out, HS7.out, HAB.out⟩
            case measure => simp [intOf]; omega
        · have hir : r.take i = r := List.take_of_length_le (by omega)
          rw [hir] at hsl
          have HU := Lib.hid hsl.strs
          obtain ⟨au, cu, hvu⟩ := hsl.shape
          subst hvu
          have HC5 := Lib.hid (HC4.out.trans hch)
          have HR5 := Lib.hid (HR4.out.chg hch)
          clear hsl hbk hch hir
          go_wp2_with fail
          obtain ⟨w5, rfl⟩ : ∃ w5 : World, w5 = wr := ⟨_, rfl⟩
          have H1 : Hid (Cl2 w5 r (.int .i64 0) w5) := ⟨0, rfl, Nat.zero_le _, Chg.refl _ _⟩
          go_loopw [72] (fun vi wr => Cl2 w5 r vi wr) (fun vi _ => r.length - (intOf vi).toNat)
          case atStart => exact H1.out
          case round =>
            clear H1
            obtain ⟨i, rfl, hi, hch⟩ := hrel
            have HCH := Lib.hid hch
            clear hch
            by_cases hlt : i < r.length
            · rcases HR5.out with ⟨a', cap', h1, h2⟩ | ⟨b, off, cap', h1, hl1, hl2, hl3, hat⟩
              · subst h2; simp at hlt
              · injection h1 with h1 h2 h3
                subst h1 h3
                obtain ⟨v, k1, k2, hs, hu, hso, hol⟩ := hat i hlt
                obtain ⟨a2, cap2, rfl⟩ := hs.shape
                have k1' := HCH.out.cell k1 (by simp)
                have k2' := HCH.out.cell k2 (by simp)
                obtain ⟨W, hW⟩ : ∃ W, wr.alloc (.cells #[.string (gc r i).uid, .slice a2 (gc r i).owners.length cap2] 31) = W := ⟨_, rfl⟩
                have wO : Chg [] wr W := by rw [← hW]; exact (Chg.refl [] wr).alloc _
                have HCW := Lib.hid (HCH.out.trans wO)
                have HSW := Lib.hid (hs.chg HCW.out (fun _ _ _ _ _ => by simp))
                have HUW := Lib.hid (HU.out.chg HCW.out (fun _ _ _ _ _ => by simp))
                have hlo := HLO.out _ (gc_mem r i hlt)
                obtain ⟨os, hos⟩ : ∃ os, (gc r i).owners = os := ⟨_, rfl⟩
                obtain ⟨uu, huu⟩ : ∃ uu, (gc r i).uid = uu := ⟨_, rfl⟩
                rw [hos] at k2' HSW hlo hol hW
                rw [huu] at k1' hW
                have HLOI := Lib.hid hlo
                have H2 : Hid (Cl3 W (uids r) os (.int .i64 0) (.bool ((os.length : Int) == 0)) W) := ⟨0, _, rfl, rfl, Nat.zero_le _, by simp, rfl⟩
                clear wO hs hso hat k1 k2 hlo hos huu
                subst hW
                go_wp2_with fail
                obtain ⟨wo, rfl⟩ : ∃ wo : World, wo = wr := ⟨_, rfl⟩
                go_loopw [83, 12] (fun vj vb wq => Cl3 (wo.alloc (.cells #[.string uu, .slice a2 os.length cap2] 31)) (uids r) os vj vb wq) (fun vj _ _ => os.length - (intOf vj).toNat)
                case atStart => exact H2.out
                case round =>
                  clear H2
                  obtain ⟨j, bb, rfl, rfl, hj, hiff, hwq⟩ := hrel
                  have HIFF := Lib.hid hiff
                  subst hwq
                  clear hiff
                  by_cases hjl : j < os.length
                  · obtain ⟨b5, off5, hb5, _, hcell⟩ := strs_cell HSW.out (by omega)
                    subst hb5
                    have hcj := hcell j hjl
                    obtain ⟨o, ho⟩ : ∃ o, os.getD j ByteArray.empty = o := ⟨_, rfl⟩
                    rw [ho] at hcj
                    have CH := Lib.hid (has_any _ _ o _ HUW.out)
                    have HO := Lib.hid ho
                    clear hcell ho
                    cases bb
                    · cases hin : inB o (uids r)
                      · rw [hin] at CH
                        have HIN := Lib.hid hin
                        clear hin
                        go_wp2_with fail
                        refine CH.out.mono ?_
                        rintro e w' ⟨rfl, rfl⟩
                        go_wp2_with fail
                        go_roundw
                        case rel =>
                          refine ⟨j + 1, false, by go_num, rfl, by omega, ?_, by trivial⟩
                          have h1 := HIFF.out
                          simp only [Bool.false_eq_true, false_iff, not_or, not_exists, not_and] at h1 ⊢
                          refine ⟨h1.1, fun k hk => ?_⟩
                          by_cases e : k = j
                          · subst e; rw [HO.out, HIN.out]; simp
                          · exact h1.2 k (by omega)
                        case measure => simp [intOf]; omega
                      · rw [hin] at CH
                        have HIN := Lib.hid hin
                        clear hin
                        go_wp2_with fail
                        refine CH.out.mono ?_
                        rintro e w' ⟨rfl, rfl⟩
                        go_wp2_with fail
                        go_roundw
                        case rel =>
                          refine ⟨j + 1, true, by go_num, rfl, by omega, ?_, by trivial⟩
                          simp only [true_iff]
                          exact .inr ⟨j, by omega, by rw [HO.out]; exact HIN.out⟩
                        case measure => simp [intOf]; omega
                    · go_wp2_with fail
                      go_roundw
                      case rel =>
                        refine ⟨j + 1, true, by go_num, rfl, by omega, ?_, by trivial⟩
                        simp only [true_iff]
                        rcases HIFF.out.1 rfl with h1 | ⟨k, hk, h1⟩
                        · exact .inl h1
                        · exact .inr ⟨k, by omega, h1⟩
                      case measure => simp [intOf]; omega
                  · have hbt : bb = true := HIFF.out.2 (by
                      rcases HLOI.out with h1 | ⟨o, ho, hu2⟩
                      · left; rw [h1]; rfl
                      · right
                        obtain ⟨k, hk, e⟩ := List.getElem_of_mem ho
                        exact ⟨k, by omega, by rw [inB_iff]; simp only [List.getD, List.getElem?_eq_getElem hk, Option.getD_some]; rw [e]; exact hu2⟩)
                    subst hbt
                    go_wp2_with fail
                    go_roundw
                    case rel => exact ⟨i + 1, by go_num, by omega, HCW.out⟩
                    case measure => simp [intOf]; omega
            · go_wp2_with fail
              go_ret
              exact ⟨rfl, HC5.out.trans HCH.out⟩
end Go.Proofs.Ytfdfljcieeccbaa

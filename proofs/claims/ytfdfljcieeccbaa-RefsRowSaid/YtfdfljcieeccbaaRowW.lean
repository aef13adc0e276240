/- THE WALK of RefsRow. Conditions: the cards hold in memory what they say. -/
import Derived.Test.YtfdfljcieeccbaaOrder
import Derived.Test.YtfdfljcieeccbaaMoreW
import Derived.BigRegion
import Derived.Deep.DeepCutAuto
namespace Go.Proofs.Ytfdfljcieeccbaa
open Go.RowKit Go.Maps
attribute [local go_sem] run_makeMap
/-- where each stands. -/
def Done (out : List ByteArray) (i : Nat) (f : ByteArray → Option Value) : Prop := (∀ k, k < i → f (out.getD k ByteArray.empty) = some (.int .i64 ((k : Int) + 1))) ∧ ∀ s, (f s).isSome = inB s (out.take i)
theorem Done.push {out : List ByteArray} {i : Nat} {f : ByteArray → Option Value} (h : Done out i f) (hn : out.Nodup) (hi : i < out.length) : (f (out.getD i ByteArray.empty)).isSome = false ∧ Done out (i + 1) (upd f (out.getD i ByteArray.empty) (some (.int .i64 ((i : Int) + 1)))) := by
  refine ⟨?_, fun k hk => ?_, fun s => ?_⟩
  · rw [h.2, inB_false]
    intro hm
    obtain ⟨j, hj, hjl, e⟩ := mem_take_getD hm
    have := getD_inj hn hjl hi e
    omega
  · unfold upd
    by_cases e : k = i
    · subst e; rw [if_pos rfl]
    · rw [if_neg (fun e2 => e (getD_inj hn (by omega) hi e2)), h.1 k (by omega)]
  · rw [take_succ_own _ _ hi, inB_push]
    unfold upd
    by_cases e : s = out.getD i ByteArray.empty
    · rw [if_pos e]; simp [e]
    · rw [if_neg e, h.2 s]; simp only [decide_eq_false e, Bool.or_false]
def R1 (B : World) (m : Nat) (out : List ByteArray) (v : Value) (wr : World) : Prop := ∃ i : Nat, v = .int .i64 i ∧ i ≤ out.length ∧ Chg [m] B wr ∧ ∃ f, FM wr m i f ∧ Done out i f
set_option maxRecDepth 100000 in
set_option maxHeartbeats 4000000 in
theorem row_any (a : Option Addr) (cap : Nat) (l : List Card) (at_ to_ : Int) (h0 : -9223372036854775808 ≤ at_) (h1 : at_ ≤ 9223372036854775807) (h2 : -9223372036854775808 ≤ to_) (h3 : to_ ≤ 9223372036854775807) (w : World) (h : CardsAt w (.slice a l.length cap) l) :
    Calls Try.prog 5 #[.slice a l.length cap, .int .i64 at_, .int .i64 to_] w fun e w' => e = .returned (.bool true) ∧ Chg [] w w' := by
  have CG := Lib.hid (order_any a cap l w h)
  have HA := Lib.hid h
  clear h
  go_enter Try.func5, Try.ntmps5
  go_wp2_with fail
  refine CG.out.mono ?_
  rintro e w1 ⟨hc1, ⟨hck, rfl⟩ | ⟨hg, hres⟩⟩
  · have CO := Lib.hid (odd_any w1)
    have hne : (checkE l != 0) = true := by simpa using hck
    have HC1 := Lib.hid hc1
    clear CG hck hc1
    go_wp2_with fail
    refine CO.out.mono ?_
    rintro e w2 ⟨rfl, hc2⟩
    have HC2 := Lib.hid (HC1.out.trans hc2)
    have C8 := Lib.hid (check8_any a cap l w2 (HA.out.chg HC2.out))
    clear CO hc2
    go_wp2_with fail
    refine C8.out.mono ?_
    rintro e w3 ⟨rfl, hc3⟩
    have HC3 := Lib.hid hc3
    clear hc3
    go_wp2_with fail
    go_ret
    exact ⟨rfl, HC2.out.trans HC3.out⟩
  · have hl60 := hg.len
    have CO := Lib.hid (odd_any w1)
    have hres2 : ∃ (vo : Value) (out : List ByteArray) (eo : Int), e = .returned (.tuple #[vo, .int .i64 eo]) ∧ StrsAt w1 vo out ∧ ((eo = 1 ∧ out = []) ∨ (eo = 0 ∧ OInv l out ∧ out.length = l.length)) := by
      rcases hres with rfl | ⟨v, out, rfl, h4, h5, h6⟩
      · exact ⟨_, [], 1, rfl, .inl ⟨none, 0, rfl, rfl⟩, .inl ⟨rfl, rfl⟩⟩
      · exact ⟨v, out, 0, rfl, h4, .inr ⟨rfl, h5, h6⟩⟩
    obtain ⟨vo, out, eo, rfl, hst, hor⟩ := hres2
    obtain ⟨ao, co, rfl⟩ := hst.shape
    have HC1 := Lib.hid hc1
    have HG := Lib.hid hg
    have HST := Lib.hid hst
    have HOR := Lib.hid hor
    clear CG hres hg hc1 hst hor
    go_wp2_with fail
    refine CO.out.mono ?_
    rintro e w2 ⟨rfl, hc2⟩
    have HC2 := Lib.hid (HC1.out.trans hc2)
    have HST2 := Lib.hid (HST.out.chg hc2 (fun _ _ _ _ _ => by simp))
    have C8 := Lib.hid (by have := check8_any a cap l w2 (HA.out.chg HC2.out); rw [(good_iff l).2 HG.out] at this; exact this)
    clear CO hc2
    by_cases hl0 : l.length = 0
    · have hb : ((l.length : Int) == 0) = true := by simp [hl0]
      have ho0 : out.length = 0 := by
        rcases HOR.out with ⟨_, rfl⟩ | ⟨_, _, h6⟩
        · rfl
        · omega
      have hout : out = [] := List.eq_nil_of_length_eq_zero ho0
      subst hout
      clear hl0 ho0
      go_wp2_with fail
      refine C8.out.mono ?_
      rintro e w3 ⟨rfl, hc3⟩
      have HC3 := Lib.hid hc3
      clear hc3
      go_wp2_with fail
      go_ret
      exact ⟨rfl, HC2.out.trans HC3.out⟩
    · have hb : ((l.length : Int) == 0) = false := by simpa using hl0
      have hl1 : 1 ≤ (l.length : Int) := by omega
      go_wp2_with fail
      refine C8.out.mono ?_
      rintro e w3 ⟨rfl, hc3⟩
      have HST3 := Lib.hid (HST2.out.chg hc3 (fun _ _ _ _ _ => by simp))
      have HC3 := Lib.hid (HC2.out.trans hc3)
      have CR1 := Lib.hid (restN_any at_ (l.length : Int) w3 hl1 (by omega) h0 h1)
      have CR2 := Lib.hid (restN_any to_ (l.length : Int) w3 hl1 (by omega) h2 h3)
      have hr0 := Int.emod_nonneg at_ (show (l.length : Int) ≠ 0 by omega)
      have hr1 := Int.emod_lt_of_pos at_ (show 0 < (l.length : Int) by omega)
      have hq0 := Int.emod_nonneg to_ (show (l.length : Int) ≠ 0 by omega)
      have hq1 := Int.emod_lt_of_pos to_ (show 0 < (l.length : Int) by omega)
      obtain ⟨k1, hk1⟩ : ∃ k : Nat, at_ % (l.length : Int) = k := ⟨(at_ % (l.length : Int)).toNat, by omega⟩
      obtain ⟨k2, hk2⟩ : ∃ k : Nat, to_ % (l.length : Int) = k := ⟨(to_ % (l.length : Int)).toNat, by omega⟩
      rw [hk1] at CR1 hr1
      rw [hk2] at CR2 hq1
      have hkl1 : k1 < l.length := by omega
      have hkl2 : k2 < l.length := by omega
      clear hr0 hr1 hq0 hq1 hk1 hk2 hc3 C8
      rcases HA.out with ⟨a', cap', e1, e2⟩ | ⟨b, off, cap', e1, hl1', hl2, hl3, hat⟩
      · subst e2; simp at hl0
      · injection e1 with e1 e2 e3
        subst e1 e3
        obtain ⟨_, p1, _, _, hu1, _⟩ := hat k1 hkl1
        obtain ⟨_, p2, _, _, hu2, _⟩ := hat k2 hkl2
        have p1' := HC3.out.cell p1 (by simp)
        have p2' := HC3.out.cell p2 (by simp)
        have hm1 := gc_mem l k1 hkl1
        have hm2 := gc_mem l k2 hkl2
        obtain ⟨x, hx⟩ : ∃ x, (gc l k1).uid = x := ⟨_, rfl⟩
        obtain ⟨y, hy⟩ : ∃ y, (gc l k2).uid = y := ⟨_, rfl⟩
        have hxu : x ∈ uids l := List.mem_map.2 ⟨_, hm1, hx⟩
        have hyu : y ∈ uids l := List.mem_map.2 ⟨_, hm2, hy⟩
        rw [hx] at p1' hu1
        rw [hy] at p2' hu2
        clear p1 p2 hat hx hy hm1 hm2
        go_wp2_with fail
        refine CR1.out.mono ?_
        rintro e w' ⟨rfl, rfl⟩
        go_wp2_with fail
        refine CR2.out.mono ?_
        rintro e w' ⟨rfl, rfl⟩
        have CU1 := Lib.hid (underF_any (some ⟨b, off, none⟩) cap l x w3 (HA.out.chg HC3.out) HG.out hxu)
        clear CR1 CR2
        go_wp2_with fail
        refine CU1.out.mono ?_
        rintro e w4 ⟨v4, P, rfl, hst4, hnd4, hall4, hc4⟩
        obtain ⟨a4, c4, rfl⟩ := hst4.shape
        have CU2 := Lib.hid (underF_any (some ⟨b, off, none⟩) cap l y w4 (HA.out.chg (HC3.out.trans hc4)) HG.out hyu)
        have HC4 := Lib.hid hc4
        have HST4 := Lib.hid hst4
        have HALL4 := Lib.hid hall4
        clear hst4 hnd4 hall4 hc4 CU1 p1' p2'
        go_wp2_with fail
        refine CU2.out.mono ?_
        rintro e w5 ⟨v5, Q, rfl, hst5, hnd5, hall5, hc5⟩
        obtain ⟨a5, c5, rfl⟩ := hst5.shape
        have HC5 := Lib.hid ((HC3.out.trans HC4.out).trans hc5)
        have HP := Lib.hid (HST4.out.chg hc5 (fun _ _ _ _ _ => by simp))
        have HQ := Lib.hid hst5
        have HO5 := Lib.hid (HST3.out.chg (HC4.out.trans hc5) (fun _ _ _ _ _ => by simp))
        have HALL5 := Lib.hid hall5
        have CH := Lib.hid (has_any _ _ y w5 HP.out)
        clear hst5 hnd5 hall5 hc5 CU2
        go_wp2_with fail
        refine CH.out.mono ?_
        rintro e w' ⟨rfl, rfl⟩
        have HPQ : Hid (inB y P = true → ∀ s ∈ Q, s ∈ P) := fun hin s hs => (HALL4.out s).2 (((HALL4.out y).1 ((inB_iff _ _).1 hin)).trans ((HALL5.out s).1 hs))
        have hQl : Q.length ≤ 9223372036854775807 := by
          rcases HQ.out with ⟨_, _, _, rfl⟩ | ⟨_, _, _, _, h1, h2, _⟩
          · simp
          · omega
        have hPl : P.length ≤ 9223372036854775807 := by
          rcases HP.out with ⟨_, _, _, rfl⟩ | ⟨_, _, _, _, h1, h2, _⟩
          · simp
          · omega
        clear CH
        go_upto_if 76 with fail
        go_cut [16] (fun _ wx => w5 = wx)
        case first =>
          cases hin : inB y P
          · clear hin
            go_wp2_with fail
            go_meet
            rfl
          · have HIN := Lib.hid (HPQ.out hin)
            have H0 : Hid (LRel Q.length (.int .i64 0)) := ⟨0, rfl, Nat.zero_le _⟩
            clear hin
            go_wp2_with fail
            go_loopw [79] (fun v wq => LRel Q.length v ∧ w5 = wq) (fun v _ => Q.length - (intOf v).toNat)
            case atStart => exact ⟨H0.out, rfl⟩
            case round =>
              clear H0
              obtain ⟨⟨j, rfl, hj⟩, rfl⟩ := hrel
              by_cases hjl : j < Q.length
              · obtain ⟨b5, off5, hb5, _, hcell⟩ := strs_cell HQ.out (by omega)
                subst hb5
                have hcj := hcell j hjl
                obtain ⟨s, hs⟩ : ∃ s, Q.getD j ByteArray.empty = s := ⟨_, rfl⟩
                rw [hs] at hcj
                have hsm : s ∈ P := HIN.out s (by rw [← hs]; exact getD_mem _ _ hjl)
                have CH := Lib.hid (has_any _ _ s w5 HP.out)
                rw [(inB_iff s P).2 hsm] at CH
                clear hcell hs hsm
                go_wp2_with fail
                refine CH.out.mono ?_
                rintro e w' ⟨rfl, rfl⟩
                go_wp2_with fail
                refine ⟨⟨⟨j + 1, by go_num, by omega⟩, ?_⟩, ?_⟩
                · first | rfl | trivial
                · simp [intOf]; omega
              · go_wp2_with fail
                go_meet
                rfl
        case rest =>
          subst hcut
          rcases HOR.out with ⟨rfl, rfl⟩ | ⟨rfl, hoi, hol⟩
          · go_wp2_with fail
            go_ret
            exact ⟨rfl, HC5.out⟩
          · have hnd : ¬ Desc l x x := hoi.own hol x hxu
            have CA := Lib.hid (has_any _ _ x w5 HP.out)
            rw [(inB_false x P).2 (fun hm => hnd ((HALL4.out x).1 hm))] at CA
            have hxo := hoi.all hol x hxu
            obtain ⟨kx, hkx, hkxe⟩ := mem_getD hxo
            have HLO : Hid (∀ s ∈ P, ∃ j, j < kx ∧ out.getD j ByteArray.empty = s) := fun s hs => hoi.desc kx hkx s (by rw [hkxe]; exact (HALL4.out s).1 hs)
            have HSP : Hid (∀ s ∈ P, s.size ≤ 9223372036854775807) := fun s hs => by
              have h1 := ((HALL4.out s).1 hs).there
              rw [mem_uids] at h1
              obtain ⟨c, hc, rfl⟩ := h1
              exact (HA.out.small c hc).1
            have HSO : Hid (∀ s ∈ out, s.size ≤ 9223372036854775807) := fun s hs => by
              have h1 := hoi.there s hs
              rw [mem_uids] at h1
              obtain ⟨c, hc, rfl⟩ := h1
              exact (HA.out.small c hc).1
            have HN := Lib.hid hoi.nodup
            have HKE := Lib.hid hkxe
            have e1 : ((out.length : Int) != (l.length : Int)) = false := by rw [hol]; simp
            have e2 : (out.length != l.length) = false := by rw [hol]; simp
            have hol60 : out.length ≤ 60 := by omega
            have HOL := Lib.hid hol
            obtain ⟨B, hB⟩ : ∃ B, w5.alloc (.map #[] 0) = B := ⟨_, rfl⟩
            have hBs : B.heap.size = w5.heap.size + 1 := by rw [← hB]; simp
            have hcB : Chg [] w5 B := by rw [← hB]; exact (Chg.refl [] w5).alloc _
            have hfB : FM B w5.heap.size 0 (fun _ => none) := by rw [← hB]; exact FM.made w5
            have H1 : Hid (R1 B w5.heap.size out (.int .i64 0) B) := ⟨0, rfl, Nat.zero_le _, Chg.refl _ _, _, hfB, fun k hk => by omega, fun s => by simp [(inB_false s []).2]⟩
            have HX : Hid (∀ X, Chg [w5.heap.size] B X → StrsAt X (.slice ao out.length co) out ∧ StrsAt X (.slice a4 P.length c4) P ∧ Chg [] w X) := fun X hX =>
              ⟨(HO5.out.chg hcB (fun _ _ _ _ _ => by simp)).chgMap hX hfB, (HP.out.chg hcB (fun _ _ _ _ _ => by simp)).chgMap hX hfB, (HC5.out.trans hcB).trans' hX (fun x hx => by simp at hx; subst hx; exact .inr HC5.out.size)⟩
            have HB := Lib.hid hB
            clear hoi hol hnd hxo hkxe hcB hfB
            go_wp2_with fail
            refine CA.out.mono ?_
            rintro e w' ⟨rfl, rfl⟩
            go_wp2_with fail
            clear hB CA
            go_loopw [110] (fun v wr => R1 B w5.heap.size out v wr) (fun v _ => out.length - (intOf v).toNat)
            case atStart => exact H1.out
            case round =>
              clear H1
              obtain ⟨i, rfl, hi, hch, f, hf, hd⟩ := hrel
              by_cases hlt : i < out.length
              · obtain ⟨b5, off5, hb5, _, hcell⟩ := strs_cell (HX.out wr hch).1 (by omega)
                subst hb5
                have hcj := hcell i hlt
                obtain ⟨hns, hd2⟩ := hd.push HN.out hlt
                have hss := HSO.out _ (getD_mem out i hlt)
                obtain ⟨s, hs⟩ : ∃ s, out.getD i ByteArray.empty = s := ⟨_, rfl⟩
                rw [hs] at hcj hns hd2 hss
                obtain ⟨w9, r9, f9, hc9, hs9⟩ := hf.set Try.underlying37 (by omega) s hss (.int .i64 ((i : Int) + 1))
                clear hs9
                rw [hns, if_neg (by simp)] at f9
                have HR : Hid (R1 B w5.heap.size out (.int .i64 ((i : Int) + 1)) w9) := ⟨i + 1, by go_num, by omega, hch.trans hc9, _, f9, hd2⟩
                clear hcell hs hns hd2 hch hf hd f9 hc9
                go_wp2_with fail
                refine ⟨HR.out, ?_⟩
                simp [intOf]; omega
              · have hil : i = out.length := by omega
                subst hil
                have hlen := hf.len Try.underlying37
                have HF := Lib.hid hf
                have HD := Lib.hid hd
                have HC := Lib.hid hch
                have H2 : Hid (LRel P.length (.int .i64 0)) := ⟨0, rfl, Nat.zero_le _⟩
                have hlx := hf.look Try.underlying37 zero3 x hu1
                have hvx := hd.1 kx hkx
                rw [HKE.out] at hvx
                rw [hvx] at hlx
                have e3 : ((out.length : Int) == (l.length : Int)) = true := by rw [HOL.out]; simp
                have e4 : (out.length == l.length) = true := by rw [HOL.out]; simp
                clear hf hd hch hvx
                go_wp2_with fail
                obtain ⟨wo, rfl⟩ : ∃ wo : World, wo = wr := ⟨_, rfl⟩
                go_loopw [122] (fun v wq => LRel P.length v ∧ wo = wq) (fun v _ => P.length - (intOf v).toNat)
                case atStart => exact ⟨H2.out, rfl⟩
                case round =>
                  clear H2
                  obtain ⟨⟨j, rfl, hj⟩, rfl⟩ := hrel
                  by_cases hjl : j < P.length
                  · obtain ⟨b5, off5, hb5, _, hcell⟩ := strs_cell (HX.out wo HC.out).2.1 (by omega)
                    subst hb5
                    have hcj := hcell j hjl
                    obtain ⟨s, hs⟩ : ∃ s, P.getD j ByteArray.empty = s := ⟨_, rfl⟩
                    rw [hs] at hcj
                    have hsm : s ∈ P := by rw [← hs]; exact getD_mem _ _ hjl
                    obtain ⟨js, hjs, hjse⟩ := HLO.out s hsm
                    have hls := HF.out.look Try.underlying37 zero3 s (HSP.out s hsm)
                    have hvs := HD.out.1 js (by omega)
                    rw [hjse] at hvs
                    rw [hvs] at hls
                    have e5 : (((js : Int) + 1) == 0) = false := by simp; omega
                    have e6 : ¬ kx ≤ js := by omega
                    clear hcell hs hsm hjse hvs
                    go_wp2_with fail
                    refine ⟨⟨⟨j + 1, by go_num, by omega⟩, ?_⟩, ?_⟩
                    · first | rfl | trivial
                    · simp [intOf]; omega
                  · go_wp2_with fail
                    go_ret
                    exact ⟨rfl, (HX.out wo HC.out).2.2⟩
end Go.Proofs.Ytfdfljcieeccbaa

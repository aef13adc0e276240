/- THE WALKS of seneschalref.Rest, refs.Under and RefsMore. Conditions: the cards hold in memory what they say. -/
import Derived.Test.YtfdfljcieeccbaaMore
import Derived.Test.YtfdfljcieeccbaaClosedW
import Derived.BigRegion
namespace Go.Proofs.Ytfdfljcieeccbaa
open Go.RowKit
attribute [local go_sem ↓ high] appWr_eq
theorem restN_any (n m : Int) (w : World) (hm : 1 ≤ m) (hm2 : m ≤ 9223372036854775807) (h0 : -9223372036854775808 ≤ n) (h1 : n ≤ 9223372036854775807) :
   Calls Try.prog 11 #[.int .i64 n, .int .i64 m] w fun e w' => e = .returned (.int .i64 (n % m)) ∧ w = w' := by
  have e1 : 0 ≤ n → n.tmod m = n % m := fun h => Int.tmod_eq_emod_of_nonneg h
  have e2 : n < 0 → n.tmod m = -((-n) % m) := fun h => by
    have : n.tmod m = -((-n).tmod m) := by rw [Int.neg_tmod]; omega
    rw [this, Int.tmod_eq_emod_of_nonneg (by omega)]
  have hr0 := Int.emod_nonneg (-n) (show m ≠ 0 by omega)
  have hr1 := Int.emod_lt_of_pos (-n) (show 0 < m by omega)
  have hq0 := Int.emod_nonneg n (show m ≠ 0 by omega)
  have hq1 := Int.emod_lt_of_pos n (show 0 < m by omega)
  have hm0 : ¬ m = 0 := by omega
  by_cases hn : 0 ≤ n
  · clear e1 e2 hr0 hr1
    go_enter Try.func11, Try.ntmps11
    go_wp2
    go_ret
    exact ⟨rfl, rfl⟩
  · have e2' := e2 (by omega)
    have hneg := Int.emod_add_mul_ediv n m
    have hfin : (n.tmod m = 0 → n % m = 0) ∧ (n.tmod m < 0 → n % m = n.tmod m + m) := by
      have h3 : n % m = n.tmod m ∨ n % m = n.tmod m + m := by
        rw [Int.tmod_eq_emod]
        have : ¬ (0 ≤ n ∨ m ∣ n) ∨ (0 ≤ n ∨ m ∣ n) := by omega
        split
        · left; omega
        · right; have : (m.natAbs : Int) = m := by omega
          omega
      constructor
      · intro h0; rcases h3 with h3 | h3 <;> omega
      · intro h0; rcases h3 with h3 | h3 <;> omega
    have hlo : -m < n.tmod m := by omega
    have hhi : n.tmod m ≤ 0 := by omega
    have HF := Lib.hid hfin
    clear hfin hneg e2' e1 e2 hr0 hr1 hq0 hq1
    obtain ⟨r, hr⟩ : ∃ r, n.tmod m = r := ⟨_, rfl⟩
    rw [hr] at HF hlo hhi
    by_cases hz : r = 0
    · have HF0 := Lib.hid (HF.out.1 hz)
      clear HF
      subst hz
      go_enter Try.func11, Try.ntmps11
      go_wp2
      go_ret
      exact ⟨by rw [HF0.out]; rfl, rfl⟩
    · have hlt : r < 0 := by omega
      clear hz
      go_enter Try.func11, Try.ntmps11
      go_wp2
      go_ret
      exact ⟨by rw [HF.out.2 hlt]; rfl, rfl⟩
theorem underF_any (a : Option Addr) (cap : Nat) (l : List Card) (u : ByteArray) (w : World) (h : CardsAt w (.slice a l.length cap) l) (hg : Good l) (hu : u ∈ uids l) :
    Calls Try.prog 12 #[.slice a l.length cap, .string u] w fun e w' => ∃ v P, e = .returned (.tuple #[v, .int .i64 0]) ∧ StrsAt w' v P ∧ P.Nodup ∧ (∀ s, s ∈ P ↔ Desc l u s) ∧ Chg [] w w' := by
  have C8 := Lib.hid (by have := check8_any a cap l w h; rw [(good_iff l).2 hg] at this; exact this)
  have hsm := fun c hc => (h.small c hc).1
  have hus : u.size ≤ 9223372036854775807 := by
    rw [mem_uids] at hu
    obtain ⟨c, hc, rfl⟩ := hu
    exact hsm c hc
  have HA := Lib.hid h
  have HG := Lib.hid hg
  have HU := Lib.hid hu
  have HSM := Lib.hid hsm
  clear h hg hu hsm
  go_enter Try.func12, Try.ntmps12
  go_wp2_with fail
  refine C8.out.mono ?_
  rintro e w1 ⟨rfl, hc1⟩
  have CO := Lib.hid (of_any a cap l w1 (HA.out.chg hc1) HG.out.len HG.out.uids HG.out.four)
  have HC1 := Lib.hid hc1
  clear hc1 C8
  go_wp2_with fail
  refine CO.out.mono ?_
  rintro e w2 ⟨m1, m2, rfl, hgr, hc2⟩
  have hcA : Chg [] w2 (w2.alloc (.cells #[.map (some m1), .map (some m2)] 41)) := (Chg.refl [] w2).alloc _
  have hgA := hgr.chg hcA
  obtain ⟨vt, hlk⟩ := hgA.there u hus
  rw [(inB_iff u (uids l)).2 HU.out] at hlk
  have CU := Lib.hid (under_any m1 m2 l HG.out HSM.out u hus _ hgA)
  have HC2 := Lib.hid ((HC1.out.trans hc2).trans hcA)
  clear hc2 hgr hcA hgA CO
  go_wp2_with fail
  refine CU.out.mono ?_
  rintro e w3 ⟨v, P, rfl, hst, hnd, hall, hc3⟩
  have HST := Lib.hid hst
  have HND := Lib.hid hnd
  have HALL := Lib.hid hall
  have HC3 := Lib.hid hc3
  clear hst hnd hall hc3 CU hlk
  go_wp2_with fail
  go_ret2
  exact ⟨v, P, rfl, HST.out, HND.out, HALL.out, HC2.out.trans HC3.out⟩
def LRel (n : Nat) (v : Value) : Prop := ∃ j : Nat, v = .int .i64 j ∧ j ≤ n
theorem one_strs (w : World) (s : ByteArray) : StrsAt (w.alloc (.cells #[.string s] 9)) (.slice (some ⟨w.heap.size, 0, none⟩) 1 1) [s] :=
  .inr ⟨w.heap.size, 0, 1, rfl, by simp, by omega, by simp, fun i hi => by
    have : i = 0 := by simpa using hi
    subst this; simp⟩
set_option maxHeartbeats 2000000 in
theorem more_any (a : Option Addr) (cap : Nat) (l : List Card) (at_ : Int) (h0 : -9223372036854775808 ≤ at_) (h1 : at_ ≤ 9223372036854775807) (w : World) (h : CardsAt w (.slice a l.length cap) l) :
    Calls Try.prog 4 #[.slice a l.length cap, .int .i64 at_] w fun e w' => e = .returned (.bool true) ∧ Chg [] w w' := by
  have CG := Lib.hid (garbage_any a cap l w h)
  have HA := Lib.hid h
  clear h
  go_enter Try.func4, Try.ntmps4
  go_wp2_with fail
  refine CG.out.mono ?_
  rintro e w1 ⟨hc1, ⟨hck, rfl⟩ | ⟨hck, v, P, P', rfl, hst, hpm, hgi⟩⟩
  · have CO := Lib.hid (odd_any w1)
    have hne : (checkE l != 0) = true := by simpa using hck
    have HC1 := Lib.hid hc1
    clear CG hck hc1
    go_wp2_with fail
    refine CO.out.mono ?_
    rintro e w2 ⟨rfl, hc2⟩
    have HC2 := Lib.hid (HC1.out.trans hc2)
    clear CO hc2
    go_wp2_with fail
    go_ret
    exact ⟨rfl, HC2.out⟩
  · obtain ⟨ag, cg, rfl⟩ := hst.shape
    have CO := Lib.hid (odd_any w1)
    have HC1 := Lib.hid hc1
    have HST := Lib.hid hst
    have HPM := Lib.hid hpm
    have HGI := Lib.hid hgi
    have HG := Lib.hid ((good_iff l).1 hck)
    have hl60 := HG.out.len
    clear CG hck hc1 hst hpm hgi
    by_cases hl0 : l.length = 0
    · have hl : l = [] := List.eq_nil_of_length_eq_zero hl0
      have hP : P = [] := by
        have := HGI.out
        rw [hl] at this
        exact this.none
      have hP' : P' = [] := by
        have := HPM.out
        rw [hP] at this
        exact this.eq_nil
      have HL := Lib.hid hl
      subst hP'
      have hb : ((l.length : Int) == 0) = true := by simp [hl]
      clear hl hP hl0
      go_wp2_with fail
      refine CO.out.mono ?_
      rintro e w2 ⟨rfl, hc2⟩
      have HC2 := Lib.hid (HC1.out.trans hc2)
      clear CO hc2
      go_wp2_with fail
      go_ret
      exact ⟨rfl, HC2.out⟩
    · have hb : ((l.length : Int) == 0) = false := by simpa using hl0
      have hl1 : 1 ≤ (l.length : Int) := by omega
      go_wp2_with fail
      refine CO.out.mono ?_
      rintro e w2 ⟨rfl, hc2⟩
      have CR := Lib.hid (restN_any at_ (l.length : Int) w2 hl1 (by omega) h0 h1)
      have hr0 := Int.emod_nonneg at_ (show (l.length : Int) ≠ 0 by omega)
      have hr1 := Int.emod_lt_of_pos at_ (show 0 < (l.length : Int) by omega)
      obtain ⟨k, hk⟩ : ∃ k : Nat, at_ % (l.length : Int) = k := ⟨(at_ % (l.length : Int)).toNat, by omega⟩
      rw [hk] at CR hr1
      have hkl : k < l.length := by omega
      clear hr0 hr1 hk
      have HC2 := Lib.hid (HC1.out.trans hc2)
      have HST2 := Lib.hid (HST.out.chg hc2 (fun _ _ _ _ _ => by simp))
      clear hc2 CO
      go_wp2_with fail
      refine CR.out.mono ?_
      rintro e w' ⟨rfl, rfl⟩
      rcases HA.out with ⟨a', cap', e1, e2⟩ | ⟨b, off, cap', e1, hl1', hl2, hl3, hat⟩
      · subst e2; simp at hl0
      · injection e1 with e1 e2 e3
        subst e1 e3
        obtain ⟨v, k1, k2, hs, hu, hso, hol⟩ := hat k hkl
        obtain ⟨a2, cap2, rfl⟩ := hs.shape
        have k1' := HC2.out.cell k1 (by simp)
        have k2' := HC2.out.cell k2 (by simp)
        obtain ⟨x, hx⟩ : ∃ x, gc l k = x := ⟨_, rfl⟩
        rw [hx] at k1' k2' hu
        have hxm : x ∈ l := by rw [← hx]; exact gc_mem l k hkl
        have hxu : x.uid ∈ uids l := List.mem_map.2 ⟨x, hxm, rfl⟩
        clear hs hso hol hat k1 k2 hx
        obtain ⟨W, hW⟩ : ∃ W, w2.alloc (.cells #[.string x.uid, .slice a2 x.owners.length cap2] 31) = W := ⟨_, rfl⟩
        have hcW : Chg [] w2 W := by rw [← hW]; exact (Chg.refl [] w2).alloc _
        have hxb : W.heap[w2.heap.size]? = some (.cells #[.string x.uid, .slice a2 x.owners.length cap2] 31 (0, 0)) := by rw [← hW]; exact World.alloc_heap_new w2 _
        have hWs : W.heap.size = w2.heap.size + 1 := by rw [← hW]; simp
        have hc4 : Chg [] W (W.alloc (.cells #[.string x.uid] 9)) := (Chg.refl [] W).alloc _
        have CW := Lib.hid (without_any (some ⟨b, off, none⟩) cap l _ [x.uid] (W.alloc (.cells #[.string x.uid] 9)) (HA.out.chg ((HC2.out.trans hcW).trans hc4)) (by omega) (one_strs W x.uid))
        have HC4 := Lib.hid ((HC2.out.trans hcW).trans hc4)
        have HST4 := Lib.hid (HST2.out.chg (hcW.trans hc4) (fun _ _ _ _ _ => by simp))
        have HXB := Lib.hid (hc4.heap hxb (by simp))
        rw [hWs] at CW
        clear hcW hxb hWs hc4 HST2 CR
        subst hW
        go_wp2_with fail
        refine CW.out.mono ?_
        rintro e w5 ⟨vr, rfl, hr, hc5⟩
        have hgr : Good (rest l [x.uid]) := HG.out.filter _
        have hstay := fun Q (k : GInv (rest l [x.uid]) Q []) => fun s => more_stay (s := s) HGI.out k
        have hnew := fun Q (k : GInv (rest l [x.uid]) Q []) => fun s => more_new (s := s) HGI.out k
        obtain ⟨r, hrr⟩ : ∃ r, rest l [x.uid] = r := ⟨_, rfl⟩
        rw [hrr] at hr hgr hstay hnew
        obtain ⟨ar, cr, rfl⟩ := hr.shape
        have CG2 := Lib.hid (garbage_any ar cr r w5 hr)
        have HGR := Lib.hid hgr
        have HSTAY := Lib.hid hstay
        have HNEW := Lib.hid hnew
        have HC5 := Lib.hid hc5
        clear CW hc5 hr hgr hstay hnew hrr k1' k2'
        go_wp2_with fail
        refine CG2.out.mono ?_
        rintro e w6 ⟨hc6, ⟨hck, rfl⟩ | ⟨hck, v6, Q, Q', rfl, hst6, hpm6, hgi6⟩⟩
        · exact absurd ((good_iff r).2 HGR.out) hck
        · obtain ⟨a6, c6, rfl⟩ := hst6.shape
          have hC := HC5.out.trans hc6
          have CU := Lib.hid (underF_any (some ⟨b, off, none⟩) cap l x.uid w6 (HA.out.chg (HC4.out.trans hC)) HG.out hxu)
          have HC6 := Lib.hid hC
          have HXB6 := Lib.hid (hC.heap HXB.out (by simp))
          have d1 : w6.cell? ⟨w2.heap.size, 0, none⟩ = some (.string x.uid) := by rw [cell_of_row _ _ _ _ _ _ HXB6.out]; rfl
          have HST6 := Lib.hid hst6
          have HPM6 := Lib.hid hpm6
          have HGI6 := Lib.hid hgi6
          clear CG2 hck hst6 hpm6 hgi6 hC hc6
          go_wp2_with fail
          refine CU.out.mono ?_
          rintro e w7 ⟨v7, D, rfl, hst7, hnd7, hall7, hc7⟩
          obtain ⟨a7, c7, rfl⟩ := hst7.shape
          have HG7 := Lib.hid (HST4.out.chg (HC6.out.trans hc7) (fun _ _ _ _ _ => by simp))
          have HH7 := Lib.hid (HST6.out.chg hc7 (fun _ _ _ _ _ => by simp))
          have HD7 := Lib.hid hst7
          have HALL := Lib.hid hall7
          have HC7 := Lib.hid ((HC4.out.trans HC6.out).trans hc7)
          have HXB7 := Lib.hid (hc7.heap HXB6.out (by simp))
          clear hst7 hnd7 hall7 hc7 CU d1 HST4 HST6
          go_wp2_with fail
          have d7 : w7.cell? ⟨w2.heap.size, 0, none⟩ = some (.string x.uid) := by rw [cell_of_row _ _ _ _ _ _ HXB7.out]; rfl
          obtain ⟨q1, q2, q3⟩ := (⟨HPM.out, HPM6.out, HGI6.out⟩ : _ ∧ _ ∧ _)
          have HL1 : Hid (∀ s ∈ P', s ≠ x.uid → s ∈ Q') := fun s hs hne => q2.mem_iff.2 (HSTAY.out Q q3 s (q1.mem_iff.1 hs) hne)
          have HL2 : Hid (∀ s ∈ Q', s ∈ P' ∨ s ∈ D) := fun s hs => by
            rcases HNEW.out Q q3 s (q2.mem_iff.1 hs) with h | h
            · exact .inl (q1.mem_iff.2 h)
            · exact .inr ((HALL.out s).2 h)
          have H0 : Hid (LRel P'.length (.int .i64 0)) := ⟨0, rfl, Nat.zero_le _⟩
          have hPl : P'.length ≤ 1000 := by
            have := nodup_sub_length (B := uids l) (A := P) (by have := HGI.out.nodup; simpa using this) (fun s hs => ((HGI.out.free s).1 hs).there)
            rw [q1.length_eq]; simp [uids] at this; omega
          have hQl : Q'.length ≤ 1000 := by
            have := nodup_sub_length (B := uids r) (A := Q) (by have := q3.nodup; simpa using this) (fun s hs => ((q3.free s).1 hs).there)
            have h3 := HGR.out.len
            rw [q2.length_eq]; simp [uids] at this; omega
          clear q1 q2 q3
          go_loopw [63] (fun v wq => LRel P'.length v ∧ w7 = wq) (fun v _ => P'.length - (intOf v).toNat)
          case atStart => exact ⟨H0.out, rfl⟩
          case round =>
            clear H0
            obtain ⟨⟨j, rfl, hj⟩, rfl⟩ := hrel
            by_cases hjl : j < P'.length
            · obtain ⟨b5, off5, hb5, _, hcell⟩ := strs_cell HG7.out (by omega)
              subst hb5
              have hcj := hcell j hjl
              obtain ⟨s, hs⟩ : ∃ s, P'.getD j ByteArray.empty = s := ⟨_, rfl⟩
              rw [hs] at hcj
              have hsm : s ∈ P' := by rw [← hs]; exact getD_mem _ _ hjl
              clear hcell hs
              by_cases e : s = x.uid
              · have e1 : (s.toList == x.uid.toList) = true := (Go.Lib.bytes_beq_iff s x.uid).2 e
                have e2 : (s.toList != x.uid.toList) = false := by rw [bne, e1]; rfl
                clear e
                go_wp2_with fail
                refine ⟨⟨⟨j + 1, by go_num, by omega⟩, ?_⟩, ?_⟩
                · first | rfl | trivial
                · simp [intOf]; omega
              · have e1 : (s.toList == x.uid.toList) = false := Bool.eq_false_iff.2 (fun h => e ((Go.Lib.bytes_beq_iff s x.uid).1 h))
                have e2 : (s.toList != x.uid.toList) = true := by rw [bne, e1]; rfl
                have CH := Lib.hid (has_any _ _ s w7 HH7.out)
                rw [(inB_iff s Q').2 (HL1.out s hsm e)] at CH
                clear e
                go_wp2_with fail
                refine CH.out.mono ?_
                rintro e w' ⟨rfl, rfl⟩
                go_wp2_with fail
                refine ⟨⟨⟨j + 1, by go_num, by omega⟩, ?_⟩, ?_⟩
                · first | rfl | trivial
                · simp [intOf]; omega
            · have H1 : Hid (LRel Q'.length (.int .i64 0)) := ⟨0, rfl, Nat.zero_le _⟩
              go_wp2_with fail
              go_loopw [80] (fun v wq => LRel Q'.length v ∧ w7 = wq) (fun v _ => Q'.length - (intOf v).toNat)
              case atStart => exact ⟨H1.out, rfl⟩
              case round =>
                clear H1
                obtain ⟨⟨j2, rfl, hj2⟩, rfl⟩ := hrel
                by_cases hjl2 : j2 < Q'.length
                · obtain ⟨b5, off5, hb5, _, hcell⟩ := strs_cell HH7.out (by omega)
                  subst hb5
                  have hcj := hcell j2 hjl2
                  obtain ⟨s, hs⟩ : ∃ s, Q'.getD j2 ByteArray.empty = s := ⟨_, rfl⟩
                  rw [hs] at hcj
                  have hsm := HL2.out s (by rw [← hs]; exact getD_mem _ _ hjl2)
                  have HSM := Lib.hid hsm
                  have CH := Lib.hid (has_any _ _ s w7 HG7.out)
                  have CD := Lib.hid (has_any _ _ s w7 HD7.out)
                  clear hcell hs hsm
                  cases hin : inB s P'
                  · rw [hin] at CH
                    have hd := HSM.out.resolve_left ((inB_false _ _).1 hin)
                    rw [(inB_iff s D).2 hd] at CD
                    clear hin hd
                    go_wp2_with fail
                    refine CH.out.mono ?_
                    rintro e w' ⟨rfl, rfl⟩
                    go_wp2_with fail
                    refine CD.out.mono ?_
                    rintro e w' ⟨rfl, rfl⟩
                    go_wp2_with fail
                    refine ⟨⟨⟨j2 + 1, by go_num, by omega⟩, ?_⟩, ?_⟩
                    · first | rfl | trivial
                    · simp [intOf]; omega
                  · rw [hin] at CH
                    clear hin
                    go_wp2_with fail
                    refine CH.out.mono ?_
                    rintro e w' ⟨rfl, rfl⟩
                    go_wp2_with fail
                    refine ⟨⟨⟨j2 + 1, by go_num, by omega⟩, ?_⟩, ?_⟩
                    · first | rfl | trivial
                    · simp [intOf]; omega
                · go_wp2_with fail
                  go_ret
                  exact ⟨rfl, HC7.out⟩
end Go.Proofs.Ytfdfljcieeccbaa

/- THE WALKS of package name: isEdge, isLow, made, isName, judge, Check. No conditions but a string's own bound. -/
import Derived.Test.YtfdfljcieeccbaaChecked
import Derived.WalkKit
import Derived.WalkLawsBesides
import Derived.WalkSpells
import Derived.Deep.QuietTactic
import Derived.BigQuiet
import Derived.Outline
import Derived.Lib.Hide
namespace Go.Proofs.Ytfdfljcieeccbaa
open Go.RowKit
def edgeB (c : Int) : Bool := (decide (97 ≤ c) && decide (c ≤ 122)) || (decide (65 ≤ c) && decide (c ≤ 90)) || (decide (48 ≤ c) && decide (c ≤ 57))
def lowB (c : Int) : Bool := edgeB c && (decide (c < 65) || decide (90 < c))
def dashB (c : Int) : Bool := c == 45
set_option maxHeartbeats 400000 in
theorem edge_any (c : Int) (w : World) (h0 : 0 ≤ c) (h1 : c ≤ 255) :
   Calls Try.prog 52 #[.int .u8 c] w fun e w' => e = .returned (.bool (edgeB c)) ∧ w = w' := by
  have key : (c < 48 ∨ 48 ≤ c ∧ c ≤ 57 ∨ 58 ≤ c ∧ c ≤ 64 ∨ 65 ≤ c ∧ c ≤ 90 ∨ 91 ≤ c ∧ c ≤ 96 ∨ 97 ≤ c ∧ c ≤ 122 ∨ 123 ≤ c) := by omega
  rcases key with h | h | h | h | h | h | h
  all_goals
    go_enter Try.func52, Try.ntmps52
    go_wp2
    go_ret
    refine ⟨?_, rfl⟩
    unfold edgeB
    simp
    first
      | done
      | omega
      | (rw [Bool.eq_iff_iff]; simp; omega)
theorem low_any (c : Int) (w : World) (h0 : 0 ≤ c) (h1 : c ≤ 255) :
   Calls Try.prog 43 #[.int .u8 c] w fun e w' => e = .returned (.bool (lowB c)) ∧ w = w' := by
  have CE := Lib.hid (edge_any c w h0 h1)
  have key : c < 65 ∨ (65 ≤ c ∧ c ≤ 90) ∨ 90 < c := by omega
  cases he : edgeB c
  · rw [he] at CE
    have HE := Lib.hid he
    clear he
    go_enter Try.func43, Try.ntmps43
    go_wp2_with fail
    refine CE.out.mono ?_
    rintro e w' ⟨rfl, rfl⟩
    go_wp2_with fail
    go_ret
    exact ⟨by unfold lowB; rw [HE.out]; simp, rfl⟩
  · rw [he] at CE
    have HE := Lib.hid he
    clear he
    rcases key with h | h | h
    all_goals
      go_enter Try.func43, Try.ntmps43
      go_wp2_with fail
      refine CE.out.mono ?_
      rintro e w' ⟨rfl, rfl⟩
      go_wp2_with fail
      go_ret
      refine ⟨?_, rfl⟩
      unfold lowB
      rw [HE.out]
      simp
      try omega
theorem dash_any (c : Int) (w : World) :
   Calls Try.prog 44 #[.int .u8 c] w fun e w' => e = .returned (.bool (dashB c)) ∧ w = w' := by
  go_enter Try.func44, Try.ntmps44
  go_wp2_with fail
  go_ret
  exact ⟨by simp [dashB], rfl⟩
def byteAt (s : ByteArray) (i : Nat) (h : i < s.size) : Int := ((s[i]'h).toNat : Int)
theorem byteAt_bd (s : ByteArray) (i : Nat) (h : i < s.size) : 0 ≤ byteAt s i h ∧ byteAt s i h ≤ 255 := by
  unfold byteAt
  have := (s[i]'h).toNat_lt
  omega
/-- is a function value a predicate on bytes? -/
structure PredB (f : Nat) (p : Int → Bool) : Prop where
  enter : ∀ (args : Array Value) (w : World), (callFunc f args).run Try.prog w = .ok (.enter f args) w
  calls : ∀ (c : Int) (w : World), 0 ≤ c → c ≤ 255 → Calls Try.prog f #[.int .u8 c] w fun e w' => e = .returned (.bool (p c)) ∧ w = w'
def madeL : List UInt8 → (Int → Bool) → (Int → Bool) → Bool
  | [], _, _ => false
  | c :: l, pe, pw => pe c.toNat && pe ((c :: l).getLastD 0).toNat && (c :: l).all fun c => pe c.toNat || pw c.toNat
def madeB (s : ByteArray) (pe pw : Int → Bool) : Bool := madeL s.data.toList pe pw
theorem madeB_nil (s : ByteArray) (pe pw : Int → Bool) (h : s.size = 0) : madeB s pe pw = false := by
  have : s.data.toList = [] := List.eq_nil_of_length_eq_zero (by simpa using h)
  unfold madeB; rw [this]; rfl
theorem byteAt_list (s : ByteArray) (i : Nat) (h : i < s.size) : byteAt s i h = ((s.data.toList.getD i 0).toNat : Int) := by
  have hl : i < s.data.toList.length := by simpa using h
  have e : s.data.toList.getD i 0 = s.data.toList[i] := by simp only [List.getD, List.getElem?_eq_getElem hl, Option.getD_some]
  rw [e]
  rfl
theorem madeL_iff (l : List UInt8) (pe pw : Int → Bool) (h : 0 < l.length) : madeL l pe pw = true ↔
    pe (l.getD 0 0).toNat = true ∧ pe (l.getD (l.length - 1) 0).toNat = true ∧ ∀ i, i < l.length → pe (l.getD i 0).toNat = true ∨ pw (l.getD i 0).toNat = true := by
  cases l with
  | nil => simp at h
  | cons c l =>
    have hg : ∀ i (hi : i < (c :: l).length), (c :: l).getD i 0 = (c :: l)[i] := fun i hi => by simp only [List.getD, List.getElem?_eq_getElem hi, Option.getD_some]
    have hlast : (c :: l).getLastD 0 = (c :: l).getD ((c :: l).length - 1) 0 := by
      rw [List.getLastD_eq_getLast?, List.getLast?_eq_getElem?]
      rfl
    unfold madeL
    rw [Bool.and_eq_true, Bool.and_eq_true, hlast, List.all_eq_true]
    constructor
    · rintro ⟨⟨a, b⟩, d⟩
      exact ⟨a, b, fun i hi => by have := d _ (List.getElem_mem hi); rw [← hg i hi] at this; simpa using this⟩
    · rintro ⟨a, b, d⟩
      refine ⟨⟨a, b⟩, fun x hx => ?_⟩
      obtain ⟨i, hi, rfl⟩ := List.getElem_of_mem hx
      have := d i hi
      rw [hg i hi] at this
      simpa using this
theorem madeB_iff (s : ByteArray) (pe pw : Int → Bool) (h : 0 < s.size) : madeB s pe pw = true ↔
    pe (byteAt s 0 h) = true ∧ pe (byteAt s (s.size - 1) (by omega)) = true ∧ ∀ i (hi : i < s.size), pe (byteAt s i hi) = true ∨ pw (byteAt s i hi) = true := by
  have hl : s.data.toList.length = s.size := by simp
  simp only [byteAt_list]
  rw [← hl]
  exact madeL_iff s.data.toList pe pw (by omega)
def MRel (s : ByteArray) (pe pw : Int → Bool) (v : Value) : Prop := ∃ i : Nat, v = .int .i64 i ∧ i ≤ s.size ∧ ∀ j (hj : j < s.size), j < i → pe (byteAt s j hj) = true ∨ pw (byteAt s j hj) = true
set_option maxHeartbeats 800000 in
theorem made_any (s : ByteArray) (fe fw : Nat) (pe pw : Int → Bool) (w : World) (hs : s.size ≤ 9223372036854775807) (he : PredB fe pe) (hw : PredB fw pw) :
   Calls Try.prog 42 #[.string s, .func (.func fe) #[] #[], .func (.func fw) #[] #[]] w fun e w' => e = .returned (.bool (madeB s pe pw)) ∧ w = w' := by
  have HE := Lib.hid he.calls
  have HW := Lib.hid hw.calls
  have h1 := he.enter
  have h2 := hw.enter
  clear he hw
  by_cases h0 : s.size = 0
  · have HF := Lib.hid (madeB_nil s pe pw h0)
    have e1 : s.toList.isEmpty = true := by
      have : s.data.toList = [] := List.eq_nil_of_length_eq_zero (by simpa using h0)
      rw [ByteArray.toList_eq, this]; rfl
    have e2 : s.toList = [] := by simpa using e1
    clear h0
    go_enter Try.func42, Try.ntmps42
    go_wp2_with fail
    go_ret
    exact ⟨by rw [HF.out]; rfl, rfl⟩
  · have h0' : 0 < s.size := by omega
    have hlast : s.size - 1 < s.size := by omega
    have hcast : ((s.size - 1 : Nat) : Int) = (s.size : Int) - 1 := by omega
    clear hcast
    have HI := Lib.hid (madeB_iff s pe pw h0')
    have e1 : s.toList.isEmpty = false := by
      have : s.data.toList ≠ [] := fun e => by have : s.data.toList.length = 0 := by rw [e]; rfl
                                               simp only [Array.length_toList] at this; have e2 : s.data.size = s.size := rfl; omega
      rw [ByteArray.toList_eq]
      simpa using this
    have e2 : s.toList = [] ↔ False := by simp at e1; simp [e1]
    have hb := fun i hi => byteAt_bd s i hi
    have HB : Hid (∀ i (hi : i < s.size), ((s[i]'hi).toNat : Int) = byteAt s i hi) := fun i hi => rfl
    have hby : ∀ i (hi : i < s.size), ((s[i]'hi).toNat : Int) = byteAt s i hi := fun i hi => rfl
    have HBD := Lib.hid hb
    clear h0 hb
    have C0 := Lib.hid (HE.out (byteAt s 0 h0') w (HBD.out 0 h0').1 (HBD.out 0 h0').2)
    have CL := Lib.hid (HE.out (byteAt s (s.size - 1) hlast) w (HBD.out _ hlast).1 (HBD.out _ hlast).2)
    cases p0 : pe (byteAt s 0 h0')
    · rw [p0] at C0
      have hfin : madeB s pe pw = false := by
        cases hm : madeB s pe pw
        · rfl
        · have := (HI.out.1 hm).1; rw [p0] at this; cases this
      have HF := Lib.hid hfin
      clear hfin p0
      go_enter Try.func42, Try.ntmps42
      go_wp2_with fail
      refine C0.out.mono ?_
      rintro e w' ⟨rfl, rfl⟩
      go_wp2_with fail
      go_ret
      exact ⟨by rw [HF.out]; rfl, rfl⟩
    · rw [p0] at C0
      cases p1 : pe (byteAt s (s.size - 1) hlast)
      · rw [p1] at CL
        have hfin : madeB s pe pw = false := by
          cases hm : madeB s pe pw
          · rfl
          · have := (HI.out.1 hm).2.1; rw [p1] at this; cases this
        have HF := Lib.hid hfin
        clear hfin p0 p1
        go_enter Try.func42, Try.ntmps42
        go_wp2_with fail
        refine C0.out.mono ?_
        rintro e w' ⟨rfl, rfl⟩
        go_wp2_with fail
        refine CL.out.mono ?_
        rintro e w' ⟨rfl, rfl⟩
        go_wp2_with fail
        go_ret
        exact ⟨by rw [HF.out]; rfl, rfl⟩
      · rw [p1] at CL
        have P0 := Lib.hid p0
        have P1 := Lib.hid p1
        have H0 : Hid (MRel s pe pw (.int .i64 0)) := ⟨0, rfl, by omega, fun j hj h => by omega⟩
        clear p0 p1
        go_enter Try.func42, Try.ntmps42
        go_wp2_with fail
        refine C0.out.mono ?_
        rintro e w' ⟨rfl, rfl⟩
        go_wp2_with fail
        refine CL.out.mono ?_
        rintro e w' ⟨rfl, rfl⟩
        go_wp2_with fail
        go_loop [29] (fun v => MRel s pe pw v) (fun v => s.size - (intOf v).toNat)
        case atStart => exact H0.out
        case round =>
          clear H0
          obtain ⟨i, rfl, hi, hall⟩ := hrel
          have HA := Lib.hid hall
          clear hall
          by_cases hlt : i < s.size
          · have CE := Lib.hid (HE.out (byteAt s i hlt) w (HBD.out i hlt).1 (HBD.out i hlt).2)
            have CW := Lib.hid (HW.out (byteAt s i hlt) w (HBD.out i hlt).1 (HBD.out i hlt).2)
            cases pi : pe (byteAt s i hlt)
            · rw [pi] at CE
              cases qi : pw (byteAt s i hlt)
              · rw [qi] at CW
                have hfin : madeB s pe pw = false := by
                  cases hm : madeB s pe pw
                  · rfl
                  · rcases (HI.out.1 hm).2.2 i hlt with h | h
                    · rw [pi] at h; cases h
                    · rw [qi] at h; cases h
                have HF := Lib.hid hfin
                clear hfin pi qi
                go_wp2_with fail
                refine CE.out.mono ?_
                rintro e w' ⟨rfl, rfl⟩
                go_wp2_with fail
                refine CW.out.mono ?_
                rintro e w' ⟨rfl, rfl⟩
                go_wp2_with fail
                go_ret
                exact ⟨by rw [HF.out]; rfl, rfl⟩
              · rw [qi] at CW
                have QI := Lib.hid qi
                clear pi qi
                go_wp2_with fail
                refine CE.out.mono ?_
                rintro e w' ⟨rfl, rfl⟩
                go_wp2_with fail
                refine CW.out.mono ?_
                rintro e w' ⟨rfl, rfl⟩
                go_wp2_with fail
                go_round
                case rel =>
                  refine ⟨i + 1, by go_num, by omega, fun j hj h => ?_⟩
                  by_cases e : j = i
                  · subst e; exact .inr QI.out
                  · exact HA.out j hj (by omega)
                case measure => simp [intOf]; omega
            · rw [pi] at CE
              have PI := Lib.hid pi
              clear pi
              go_wp2_with fail
              refine CE.out.mono ?_
              rintro e w' ⟨rfl, rfl⟩
              go_wp2_with fail
              go_round
              case rel =>
                refine ⟨i + 1, by go_num, by omega, fun j hj h => ?_⟩
                by_cases e : j = i
                · subst e; exact .inl PI.out
                · exact HA.out j hj (by omega)
              case measure => simp [intOf]; omega
          · go_wp2_with fail
            go_ret
            refine ⟨?_, rfl⟩
            rw [HI.out.2 ⟨P0.out, P1.out, fun j hj => HA.out j hj (by omega)⟩]
            rfl
def nameB (s : ByteArray) : Bool := madeB s lowB dashB
theorem low_pred : PredB 43 lowB := ⟨fun args w => by simp [go_sem], fun c w h0 h1 => low_any c w h0 h1⟩
theorem dash_pred : PredB 44 dashB := ⟨fun args w => by simp [go_sem], fun c w h0 h1 => dash_any c w⟩
theorem isName_any (s : ByteArray) (w : World) (hs : s.size ≤ 9223372036854775807) :
   Calls Try.prog 27 #[.string s] w fun e w' => e = .returned (.bool (nameB s)) ∧ w = w' := by
  have C := Lib.hid (made_any s 43 44 lowB dashB w hs low_pred dash_pred)
  go_enter Try.func27, Try.ntmps27
  go_wp2_with fail
  refine C.out.mono ?_
  rintro e w' ⟨rfl, rfl⟩
  go_wp2_with fail
  go_ret
  exact ⟨rfl, rfl⟩
def judgeI (n most : Int) (is : Bool) : Int := if most < n then 2 else if is then 0 else 6
theorem judge_any (s : ByteArray) (most : Int) (is : Bool) (w : World) (hs : s.size ≤ 9223372036854775807) :
   Calls Try.prog 26 #[.string s, .int .i64 most, .bool is] w fun e w' => e = .returned (.int .i64 (judgeI s.size most is)) ∧ w = w' := by
  by_cases h : most < s.size
  · go_enter Try.func26, Try.ntmps26
    go_wp2_with fail
    go_ret
    exact ⟨by unfold judgeI; rw [if_pos (by omega)]; rfl, rfl⟩
  · cases is
    · go_enter Try.func26, Try.ntmps26
      go_wp2_with fail
      go_ret
      exact ⟨by unfold judgeI; rw [if_neg (by omega)]; rfl, rfl⟩
    · go_enter Try.func26, Try.ntmps26
      go_wp2_with fail
      go_ret
      exact ⟨by unfold judgeI; rw [if_neg (by omega)]; rfl, rfl⟩
/-- what name.Check says. -/
def nameE (s : ByteArray) : Int := judgeI s.size 63 (nameB s)
theorem check_any (s : ByteArray) (w : World) (hs : s.size ≤ 9223372036854775807) :
   Calls Try.prog 19 #[.string s] w fun e w' => e = .returned (.int .i64 (nameE s)) ∧ w = w' := by
  have C := Lib.hid (isName_any s w hs)
  have D := Lib.hid (judge_any s 63 (nameB s) w hs)
  go_enter Try.func19, Try.ntmps19
  go_wp2_with fail
  refine C.out.mono ?_
  rintro e w' ⟨rfl, rfl⟩
  go_wp2_with fail
  refine D.out.mono ?_
  rintro e w' ⟨rfl, rfl⟩
  go_wp2_with fail
  go_ret
  exact ⟨rfl, rfl⟩
end Go.Proofs.Ytfdfljcieeccbaa

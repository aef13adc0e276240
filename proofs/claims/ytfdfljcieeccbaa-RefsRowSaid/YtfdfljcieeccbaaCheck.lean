/- THE WALK of refs.Check, and slices.Contains at strings. Conditions: the arguments hold in memory what they say. -/
import Derived.Test.YtfdfljcieeccbaaMem
import Derived.Test.YtfdfljcieeccbaaSeq
namespace Go.Proofs.Ytfdfljcieeccbaa
open Go.RowKit
attribute [local go_sem] run_makeMap
def firstE (es : List Int) : Int := (es.find? (· ≠ 0)).getD 0
theorem firstE_none {es : List Int} (h : ∀ i, i < es.length → es.getD i 0 = 0) : firstE es = 0 := by
  unfold firstE
  rw [List.find?_eq_none.2]
  · rfl
  · intro x hx
    obtain ⟨i, hi, rfl⟩ := List.getElem_of_mem hx
    have := h i hi
    simp [List.getD, List.getElem?_eq_getElem hi] at this
    simp [this]
theorem firstE_hit {es : List Int} (k : Nat) (hk : k < es.length) (h : ∀ i, i < k → es.getD i 0 = 0) (h0 : es.getD k 0 ≠ 0) : firstE es = es.getD k 0 := by
  have e : es = es.take k ++ es.drop k := (List.take_append_drop k es).symm
  unfold firstE
  have h1 : (es.take k).find? (· ≠ 0) = none := by
    rw [List.find?_eq_none]
    intro x hx
    obtain ⟨i, hi, rfl⟩ := List.getElem_of_mem hx
    have hi' : i < k := by simp at hi; omega
    have := h i hi'
    simp [List.getD, List.getElem?_eq_getElem (show i < es.length by omega)] at this
    simp [this]
  have h2 : es.drop k = es.getD k 0 :: es.drop (k + 1) := by
    rw [List.drop_eq_getElem_cons hk]; simp [List.getD, hk]
  have h3 : (es.drop k).find? (· ≠ 0) = some (es.getD k 0) := by
    rw [h2, List.find?_cons_of_pos]
    simpa using h0
  rw [e, List.find?_append, h1, h3]
  simp
/-- is it among them? -/
noncomputable def inB (s : ByteArray) (l : List ByteArray) : Bool := @decide (s ∈ l) (Classical.propDecidable _)
theorem inB_iff (s : ByteArray) (l : List ByteArray) : inB s l = true ↔ s ∈ l := by unfold inB; simp
theorem inB_false (s : ByteArray) (l : List ByteArray) : inB s l = false ↔ s ∉ l := by unfold inB; simp
def ownE (os : List ByteArray) : Int := firstE (os.map nameE)
noncomputable def cardE (seen : Bool) (c : Card) : Int :=
  if nameE c.uid ≠ 0 then nameE c.uid else if seen = true then 5 else if 4 < c.owners.length then 2 else if ownE c.owners ≠ 0 then ownE c.owners else if inB c.uid c.owners = true then 1 else 0
def uids (l : List Card) : List ByteArray := l.map Card.uid
noncomputable def cardEs (l : List Card) : List Int := (List.range l.length).map fun i => cardE (inB (gc l i).uid ((uids l).take i)) (gc l i)
/-- what refs.Check says. -/
noncomputable def checkE (l : List Card) : Int := if 60 < l.length then 2 else firstE (cardEs l)
theorem contains_any (v : Value) (l : List ByteArray) (x : ByteArray) (w : World) (h : StrsAt w v l) :
    Calls Try.prog 20 #[v, .string x] w fun e w' => e = .returned (.bool (inB x l)) ∧ w = w' := by
  rcases h with ⟨a, cap, rfl, rfl⟩ | ⟨b, off, cap, rfl, h1, h2, h3, h4⟩
  · refine (Try.slices_Contains_string_empty a cap x w).mono ?_
    rintro e w' ⟨rfl, rfl⟩
    exact ⟨by rw [(inB_false x []).2 (by simp)], rfl⟩
  · refine (Try.slices_Contains_string b off l.length cap l x w (Nat.le_refl _) (by omega) h4).mono ?_
    rintro e w' ⟨rfl, rfl⟩
    refine ⟨?_, rfl⟩
    rw [List.take_length]
    congr 2
    rw [Bool.eq_iff_iff, inB_iff, Go.Lib.containsS_iff]
/-- the slice v holds the cards l. -/
def CardsAt (w : World) (v : Value) (l : List Card) : Prop :=
  (∃ a cap, v = .slice a 0 cap ∧ l = []) ∨
  ∃ b off cap, v = .slice (some ⟨b, off, none⟩) l.length cap ∧ l.length ≤ cap ∧ cap ≤ 9223372036854775807 ∧ b < w.heap.size ∧ ∀ i, i < l.length → CardAt w b (off + i * 2) (gc l i)
theorem CardAt.chg {w w' : World} {b off : Nat} {c : Card} (h : CardAt w b off c) (hc : Chg [] w w') : CardAt w' b off c := by
  obtain ⟨v, h1, h2, h3, r⟩ := h
  exact ⟨v, hc.cell h1 (by simp), hc.cell h2 (by simp), h3.chg hc (fun _ _ _ _ _ => by simp), r⟩
theorem CardsAt.chg {w w' : World} {v : Value} {l : List Card} (h : CardsAt w v l) (hc : Chg [] w w') : CardsAt w' v l := by
  rcases h with h | ⟨b, off, cap, rfl, h1, h2, h3, h4⟩
  · exact .inl h
  · exact .inr ⟨b, off, cap, rfl, h1, h2, Nat.lt_of_lt_of_le h3 hc.size, fun i hi => (h4 i hi).chg hc⟩
theorem zero3 (w : World) : (zeroValue 3).run Try.prog w = .ok (.int .i64 0) w := by simp [go_sem]
theorem cardEs_length (l : List Card) : (cardEs l).length = l.length := by simp [cardEs]
theorem cardEs_get (l : List Card) (i : Nat) (h : i < l.length) : (cardEs l).getD i 0 = cardE (inB (gc l i).uid ((uids l).take i)) (gc l i) := by
  simp [cardEs, List.getD, h]
theorem checkE_hit (l : List Card) (h60 : ¬ 60 < l.length) (i : Nat) (hi : i < l.length) (hz : ∀ j, j < i → (cardEs l).getD j 0 = 0) (e : Int) (he : (cardEs l).getD i 0 = e) (h0 : e ≠ 0) : checkE l = e := by
  unfold checkE
  rw [if_neg h60, firstE_hit i (by rw [cardEs_length]; exact hi) hz (by rw [he]; exact h0), he]
theorem checkE_ok (l : List Card) (h60 : ¬ 60 < l.length) (hz : ∀ j, j < l.length → (cardEs l).getD j 0 = 0) : checkE l = 0 := by
  unfold checkE
  rw [if_neg h60, firstE_none (by rw [cardEs_length]; exact hz)]
def ORel (os : List ByteArray) (v : Value) : Prop := ∃ j : Nat, v = .int .i64 j ∧ j ≤ os.length ∧ ∀ k, k < j → nameE (os.getD k ByteArray.empty) = 0
theorem own_get (os : List ByteArray) (k : Nat) (h : k < os.length) : (os.map nameE).getD k 0 = nameE (os.getD k ByteArray.empty) := by
  simp [List.getD, h]
theorem ownE_hit (os : List ByteArray) (k : Nat) (h : k < os.length) (hz : ∀ j, j < k → nameE (os.getD j ByteArray.empty) = 0) (h0 : nameE (os.getD k ByteArray.empty) ≠ 0) : ownE os = nameE (os.getD k ByteArray.empty) := by
  unfold ownE
  rw [firstE_hit k (by simpa using h) (fun j hj => by rw [own_get os j (by omega)]; exact hz j hj) (by rw [own_get os k h]; exact h0), own_get os k h]
theorem ownE_ok (os : List ByteArray) (hz : ∀ j, j < os.length → nameE (os.getD j ByteArray.empty) = 0) : ownE os = 0 := by
  unfold ownE
  exact firstE_none (fun j hj => by have hj' : j < os.length := by simpa using hj
                                    rw [own_get os j hj']; exact hz j hj')
theorem strs_cell {w : World} {a : Option Addr} {n cap : Nat} {l : List ByteArray} (h : StrsAt w (.slice a n cap) l) (hn : 0 < n) : ∃ b off, a = some ⟨b, off, none⟩ ∧ n = l.length ∧ ∀ i, i < n → w.cell? ⟨b, off + i, none⟩ = some (.string (l.getD i ByteArray.empty)) := by
  rcases h with ⟨a', cap', h1, h2⟩ | ⟨b, off, cap', h1, h2, h3, h4, h5⟩
  · injection h1 with _ h1 _; omega
  · injection h1 with h1 h6 h7
    exact ⟨b, off, h1, h6, fun i hi => h5 i (by omega)⟩
theorem Small.at {l : List ByteArray} (h : Small l) (i : Nat) : (l.getD i ByteArray.empty).size ≤ 9223372036854775807 := by
  by_cases hi : i < l.length
  · simp only [List.getD, List.getElem?_eq_getElem hi, Option.getD_some]; exact h _ (List.getElem_mem hi)
  · rw [List.getD, List.getElem?_eq_none (Nat.le_of_not_lt hi), Option.getD_none]; decide
def CRel (w : World) (l : List Card) (v : Value) (wr : World) : Prop := ∃ i : Nat, v = .int .i64 i ∧ i ≤ l.length ∧ (∀ j, j < i → (cardEs l).getD j 0 = 0) ∧ Chg [] w wr ∧
  ∃ f c, FM wr w.heap.size c f ∧ c ≤ i ∧ ∀ s, (f s).isSome = inB s ((uids l).take i)
set_option maxHeartbeats 1000000 in
theorem check8_any (a : Option Addr) (cap : Nat) (l : List Card) (w : World) (h : CardsAt w (.slice a l.length cap) l) :
    Calls Try.prog 8 #[.slice a l.length cap] w fun e w' => e = .returned (.int .i64 (checkE l)) ∧ Chg [] w w' := by
  by_cases h60 : 60 < l.length
  · have hg : decide ((60 : Int) < (l.length : Int)) = true := decide_eq_true (by omega)
    go_enter Try.func8, Try.ntmps8
    go_wp2_with fail
    go_ret
    exact ⟨by unfold checkE; rw [if_pos h60]; rfl, Chg.refl _ _⟩
  · have hg : decide ((60 : Int) < (l.length : Int)) = false := decide_eq_false (by omega)
    have hM := FM.made w
    have H0 : Hid (CRel w l (.int .i64 0) (w.alloc (.map #[] 0))) := ⟨0, rfl, by omega, fun j hj => by omega, (Chg.refl [] w).alloc _, _, _, hM, Nat.le_refl _, fun s => by simp [(inB_false s []).2]⟩
    have HA := Lib.hid h
    have H60 := Lib.hid h60
    clear h h60 hM
    go_enter Try.func8, Try.ntmps8
    go_wp2_with fail
    go_loopw [18] (fun v wr => CRel w l v wr) (fun v _ => l.length - (intOf v).toNat)
    case atStart => exact H0.out
    case round =>
      clear H0
      obtain ⟨i, rfl, hi, hz, hch, f, c, hf, hci, hdom⟩ := hrel
      have HZ := Lib.hid hz
      have HC := Lib.hid hch
      have HF := Lib.hid hf
      have HD := Lib.hid hdom
      clear hz hch hf hdom
      by_cases hlt : i < l.length
      · rcases HA.out with ⟨a', cap', h1, h2⟩ | ⟨b, off, cap', h1, hl1, hl2, hl3, hat⟩
        · subst h2; simp at hlt
        · injection h1 with h1 h2 h3
          subst h1 h3
          obtain ⟨v, c1, c2, hs, hu, hso, hol⟩ := hat i hlt
          obtain ⟨a2, cap2, rfl⟩ := hs.shape
          have c1' := HC.out.cell c1 (by simp)
          have c2' := HC.out.cell c2 (by simp)
          have HS := Lib.hid hs
          have HSO := Lib.hid hso
          clear hs hso hat c1 c2
          have hei := cardEs_get l i hlt
          obtain ⟨cd, hcd⟩ : ∃ cd, gc l i = cd := ⟨_, rfl⟩
          rw [hcd] at hei c1' c2' HS HSO hu hol
          have HEI := Lib.hid hei
          have wO := Lib.hid (show Chg [] wr (wr.alloc (.cells #[.string cd.uid, .slice a2 cd.owners.length cap2] 31)) from (Chg.refl [] wr).alloc _)
          have hF1 := HF.out.chg wO.out (by simp)
          have CE := Lib.hid (check_any cd.uid (wr.alloc (.cells #[.string cd.uid, .slice a2 cd.owners.length cap2] 31)) hu)
          clear hei
          by_cases hne : nameE cd.uid = 0
          · rw [hne] at CE
            have hlk := hF1.look_ok Try.underlying37 zero3 cd.uid hu
            cases hin : inB cd.uid ((uids l).take i)
            · rw [HD.out cd.uid, hin] at hlk
              obtain ⟨w2, hw2, hf2, hc2, hs2⟩ := hF1.set Try.underlying37 (by have := H60.out; omega) cd.uid hu (.int .i64 i)
              have hbk : w.heap.size ≠ wr.heap.size := fun e => by have := HF.out.lt; omega
              have d1 : w2.cell? ⟨wr.heap.size, 0, none⟩ = some (.string cd.uid) := hc2.cell (p := ⟨wr.heap.size, 0, none⟩) (by simp) (by simpa using hbk.symm)
              have d2 : w2.cell? ⟨wr.heap.size, 1, none⟩ = some (.slice a2 cd.owners.length cap2) := hc2.cell (p := ⟨wr.heap.size, 1, none⟩) (by simp) (by simpa using hbk.symm)
              have HC3 := Lib.hid (show Chg [] w w2 from (HC.out.trans wO.out).trans' hc2 (fun x hx => by simp at hx; subst hx; exact .inr (Nat.le_refl _)))
              have hs2 := HS.out.chg HC3.out (fun _ _ _ _ _ => by simp)
              have HS2 := Lib.hid hs2
              have HF2 := Lib.hid hf2
              have HIN := Lib.hid hin
              have HNE := Lib.hid hne
              have HCD := Lib.hid hcd
              clear hf2 hc2 hin hne hF1 hs2 hcd hbk
              by_cases h4 : 4 < cd.owners.length
              · have hg4 : decide ((4 : Int) < (cd.owners.length : Int)) = true := decide_eq_true (by omega)
                go_wp2_with fail
                refine CE.out.mono ?_
                rintro e w' ⟨rfl, rfl⟩
                go_wp2_with fail
                go_ret
                refine ⟨?_, HC3.out⟩
                rw [checkE_hit l H60.out i hlt HZ.out 2 (by rw [HEI.out]; unfold cardE; rw [if_neg (by simpa using HNE.out), if_neg (by rw [HIN.out]; simp), if_pos h4]) (by decide)]
                rfl
              · have hg4 : decide ((4 : Int) < (cd.owners.length : Int)) = false := decide_eq_false (by omega)
                have CC := Lib.hid (contains_any _ cd.owners cd.uid w2 HS2.out)
                have H1 : Hid (ORel cd.owners (.int .i64 0)) := ⟨0, rfl, Nat.zero_le _, fun k hk => by omega⟩
                go_wp2_with fail
                refine CE.out.mono ?_
                rintro e w' ⟨rfl, rfl⟩
                go_wp2_with fail
                go_loopw [48] (fun v wq => ORel cd.owners v ∧ w2 = wq) (fun v _ => cd.owners.length - (intOf v).toNat)
                case atStart => exact ⟨H1.out, rfl⟩
                case round =>
                  clear H1
                  obtain ⟨⟨j, rfl, hj, hall⟩, rfl⟩ := hrel
                  have HALL := Lib.hid hall
                  clear hall
                  by_cases hjl : j < cd.owners.length
                  · obtain ⟨b2, off2, rfl, _, hcell⟩ := strs_cell HS2.out (by omega)
                    have hcj := hcell j hjl
                    have hsz := HSO.out.at j
                    obtain ⟨o, ho⟩ : ∃ o, cd.owners.getD j ByteArray.empty = o := ⟨_, rfl⟩
                    rw [ho] at hcj hsz
                    have HO := Lib.hid ho
                    have CO := Lib.hid (check_any o w2 hsz)
                    clear hcell ho
                    by_cases hno : nameE o = 0
                    · rw [hno] at CO
                      have HNO := Lib.hid hno
                      clear hno
                      go_wp2_with fail
                      refine CO.out.mono ?_
                      rintro e w' ⟨rfl, rfl⟩
                      go_wp2_with fail
                      go_roundw
                      case rel =>
                        refine ⟨⟨j + 1, by go_num, by omega, fun k hk => ?_⟩, by trivial⟩
                        by_cases e : k = j
                        · subst e; rw [HO.out]; exact HNO.out
                        · exact HALL.out k (by omega)
                      case measure => simp [intOf]; omega
                    · have hdec : (nameE o != 0) = true := by simpa using hno
                      have HNO := Lib.hid hno
                      clear hno
                      go_wp2_with fail
                      refine CO.out.mono ?_
                      rintro e w' ⟨rfl, rfl⟩
                      go_wp2_with fail
                      go_ret
                      refine ⟨?_, HC3.out⟩
                      rw [checkE_hit l H60.out i hlt HZ.out (nameE o) (by
                        have hoe := ownE_hit cd.owners j hjl HALL.out (by rw [HO.out]; exact HNO.out)
                        rw [HO.out] at hoe
                        rw [HEI.out]; unfold cardE; rw [if_neg (by simpa using HNE.out), if_neg (by rw [HIN.out]; simp), if_neg h4, if_pos (by rw [hoe]; exact HNO.out), hoe]) HNO.out]
                      rfl
                  · have hoe := ownE_ok cd.owners (fun k hk => HALL.out k (by omega))
                    have HOE := Lib.hid hoe
                    clear hoe
                    cases hown : inB cd.uid cd.owners
                    · rw [hown] at CC
                      have HOWN := Lib.hid hown
                      clear hown
                      go_wp2_with fail
                      refine CC.out.mono ?_
                      rintro e w' ⟨rfl, rfl⟩
                      go_wp2_with fail
                      go_roundw
                      case rel =>
                        refine ⟨i + 1, by go_num, by omega, fun k hk => ?_, HC3.out, _, _, HF2.out, by split <;> omega, fun s => ?_⟩
                        · by_cases e : k = i
                          · subst e
                            rw [HEI.out]; unfold cardE; rw [if_neg (by simpa using HNE.out), if_neg (by rw [HIN.out]; simp), if_neg h4, if_neg (by simpa using HOE.out), if_neg (by rw [HOWN.out]; simp)]
                          · exact HZ.out k (by omega)
                        · have hti : (uids l).take (i + 1) = (uids l).take i ++ [cd.uid] := by
                            rw [List.take_add_one]
                            have : (uids l)[i]? = some cd.uid := by
                              rw [← HCD.out]; simp [uids, gc, List.getD, hlt]
                            rw [this]; rfl
                          unfold upd
                          rw [hti, Bool.eq_iff_iff, inB_iff]
                          by_cases e : s = cd.uid
                          · subst e; simp
                          · rw [if_neg e, HD.out s, inB_iff]; simp [e]
                      case measure => simp [intOf]; omega
                    · rw [hown] at CC
                      have HOWN := Lib.hid hown
                      clear hown
                      go_wp2_with fail
                      refine CC.out.mono ?_
                      rintro e w' ⟨rfl, rfl⟩
                      go_wp2_with fail
                      go_ret
                      refine ⟨?_, HC3.out⟩
                      rw [checkE_hit l H60.out i hlt HZ.out 1 (by
                        rw [HEI.out]; unfold cardE; rw [if_neg (by simpa using HNE.out), if_neg (by rw [HIN.out]; simp), if_neg h4, if_neg (by simpa using HOE.out), if_pos HOWN.out]) (by decide)]
                      rfl
            · rw [HD.out cd.uid, hin] at hlk
              have HIN := Lib.hid hin
              have HNE := Lib.hid hne
              clear hin hne hF1
              go_wp2_with fail
              refine CE.out.mono ?_
              rintro e w' ⟨rfl, rfl⟩
              go_wp2_with fail
              go_ret
              refine ⟨?_, HC.out.trans wO.out⟩
              rw [checkE_hit l H60.out i hlt HZ.out 5 (by
                rw [HEI.out]; unfold cardE; rw [if_neg (by simpa using HNE.out), if_pos HIN.out]) (by decide)]
              rfl
          · have hdec : (nameE cd.uid != 0) = true := by simpa using hne
            have HNE := Lib.hid hne
            clear hne
            go_wp2_with fail
            refine CE.out.mono ?_
            rintro e w' ⟨rfl, rfl⟩
            go_wp2_with fail
            go_ret
            refine ⟨?_, HC.out.trans wO.out⟩
            rw [checkE_hit l H60.out i hlt HZ.out (nameE cd.uid) (by
              rw [HEI.out]; unfold cardE; rw [if_pos (by simpa using HNE.out)]) HNE.out]
            rfl
      · go_wp2_with fail
        go_ret
        refine ⟨?_, HC.out⟩
        rw [checkE_ok l H60.out (fun j hj => HZ.out j (by omega))]
        rfl
end Go.Proofs.Ytfdfljcieeccbaa

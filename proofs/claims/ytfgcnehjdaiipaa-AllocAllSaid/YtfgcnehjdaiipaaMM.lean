/- Contracts of ir.Check and of the document's Check. -/
import Derived.Test.YtfgcnehjdaiipaaML
import Derived.Test.YtfgcnehjdaiipaaMI
/- ir.right. -/
set_option linter.unusedSimpArgs false
set_option linter.unusedVariables false
namespace Go.Lm
open Go.Proofs

/-- the words of an instruction's scratch places that are written so far, as a row of flags -/
def boolsO (w : List Bool) : Ob := .cells false 0 ((w.map Value.bool).toArray)
def opO (o : OpZ) : Ob := .cells false 0 #[.int .i64 o.kind, .int .i64 o.d, .int .i64 o.a, .int .i64 o.b, .int .u32 o.imm, .int .i64 o.at_]
def shapeO (n : Nat) : Ob := .cells false 0 #[.bool (bitN n 1), .bool (bitN n 2), .bool (bitN n 4), .bool (bitN n 8), .bool (bitN n 16)]
/-- what ir.right asks before it looks at what is written -/
def iRightH (o : OpZ) (words : Int) : Bool :=
  !decide (sortN o.kind = 0) && decide (0 ≤ o.at_) && decide (o.at_ < words) && placeQ o.a (bitN (sortN o.kind) 1) && placeQ o.b (bitN (sortN o.kind) 2) && placeQ o.d (bitN (sortN o.kind) 4 || bitN (sortN o.kind) 8) &&
    (bitN (sortN o.kind) 16 || decide (o.imm = 0)) && !(bitN (sortN o.kind) 8 && decide (o.d = 0)) && !((decide (o.kind = 60) || decide (o.kind = 62)) && !decide (o.imm % 4 = 0))

def iRightQ (o : OpZ) (words : Int) (w : List Bool) : Bool := iRightH o words && (readsQ o).all fun p => !decide (34 ≤ p) || w.getD p.toNat false
def iRightM (o : OpZ) (words : Int) (w : List Bool) (m : Mem) (k : Nat) : Mem := if iRightQ o words w && bitN (sortN o.kind) 8 then m.put k (boolsO (w.set o.d.toNat true)) else m

theorem readsQ_len (o : OpZ) : (readsQ o).length ≤ 3 := by
  rw [readsQ_eq]
  cases bitN (sortN o.kind) 1 <;> cases bitN (sortN o.kind) 2 <;> cases bitN (sortN o.kind) 4 <;> simp
theorem reads_in {o : OpZ} {words : Int} (h : iRightH o words = true) : ∀ p ∈ readsQ o, 0 ≤ p ∧ p ≤ 63 := by
  simp only [iRightH, Bool.and_eq_true] at h
  obtain ⟨⟨⟨⟨⟨⟨⟨⟨h0, h1⟩, h2⟩, ha⟩, hb⟩, hd⟩, h6⟩, h7⟩, h8⟩ := h
  intro p hp
  rw [readsQ_eq] at hp
  simp only [List.mem_append] at hp
  rcases hp with (hp | hp) | hp
  · cases hq : bitN (sortN o.kind) 1
    · simp [hq] at hp
    · simp [hq] at hp; subst hp; simp [hq, placeQ] at ha; exact ha
  · cases hq : bitN (sortN o.kind) 2
    · simp [hq] at hp
    · simp [hq] at hp; subst hp; simp [hq, placeQ] at hb; exact hb
  · cases hq : bitN (sortN o.kind) 4
    · simp [hq] at hp
    · simp [hq] at hp; subst hp; simp [hq, placeQ] at hd; exact hd

set_option maxRecDepth 100000 in
set_option maxHeartbeats 8000000 in
theorem irright_tc (o : OpZ) (words : Int) (w : List Bool) (hw : w.length = 64) (k : Nat) (m : Mem) (hk : m.get k = boolsO w) (Q : Value → Mem → Prop) (h : Q (.bool (iRightQ o words w)) (iRightM o words w m k)) : TC Try.prog 157 [opV o, .int .i64 words, .pointer (some ⟨k, 0, none⟩)] m Q := by
  refine TC_fn mixed Try.func157 rfl Try.ntmps157 rfl (by decide) (by simp) ?_
  have hof := irof_tc o.kind
  refine wpc_st fun K hK => ?_
  simp -dsimp [opV]
  refine hK _ _ ?_
  clear hK K
  refine wpc_mid (fun env m' => elook env 2 = some (.pointer (some ⟨k, 0, none⟩)) ∧ elook env 1 = some (.int .i64 words) ∧ elook env 3 = some (.pointer (some ⟨m.top, 0, none⟩)) ∧ elook env 7 = some (.pointer (some ⟨m.top + 1, 0, none⟩)) ∧
    elook env 8 = some (.bool (sortN o.kind != 0)) ∧ m' = { base := m.get, n := m.top, loc := [opO o, shapeO (sortN o.kind)] }) ?_ ?_
  · generalize sortN o.kind = n at *
    simp -dsimp
    refine hof _ _ ?_
    simp -dsimp [shapeV, shapeO, opO]
  · rintro env m' ⟨e2, e1, e3, e7, e8, rfl⟩
    have hc := sortN_cases o.kind
    clear hof
    refine wpc_mid (fun env m' => iRightH o words = true ∧ elook env 2 = some (.pointer (some ⟨k, 0, none⟩)) ∧ elook env 3 = some (.pointer (some ⟨m.top, 0, none⟩)) ∧ elook env 7 = some (.pointer (some ⟨m.top + 1, 0, none⟩)) ∧
      m' = { base := m.get, n := m.top, loc := [opO o, shapeO (sortN o.kind)] }) ?_ ?_
    · have hF : iRightH o words = false → Q (.bool false) m := by
        intro e; simpa [iRightQ, iRightM, e] using h
      clear h
      obtain ⟨kind, d, a, b, imm, at_⟩ := o
      simp only [iRightH, opO, shapeO] at *
      generalize hn : sortN kind = n at *
      by_cases hz : n = 0
      · subst hz
        simp -dsimp [e1, e2, e3, e7, e8]
        exact fin_ret rfl (leave_pure (by simp) (hF (by simp)))
      have hz' : (n != 0) = true := by simpa using hz
      by_cases ha : at_ < 0
      · simp -dsimp [e1, e2, e3, e7, e8, hz', ha]
        exact fin_ret rfl (leave_pure (by simp) (hF (by simp; omega)))
      by_cases hb : words ≤ at_
      · simp -dsimp [e1, e2, e3, e7, e8, hz', ha, hb]
        exact fin_ret rfl (leave_pure (by simp) (hF (by simp; omega)))
      have hp1 := irplace_tc a (bitN n 1)
      have hp2 := irplace_tc b (bitN n 2)
      have hp3 := irplace_tc d (bitN n 4 || bitN n 8)
      generalize hq1 : placeQ a (bitN n 1) = q1 at *
      generalize hq2 : placeQ b (bitN n 2) = q2 at *
      generalize hq3 : placeQ d (bitN n 4 || bitN n 8) = q3 at *
      cases q1
      · simp -dsimp [e1, e2, e3, e7, e8, hz', ha, hb]
        refine hp1 _ _ ?_
        simp -dsimp
        exact fin_ret rfl (leave_pure (by simp) (hF (by simp)))
      cases q2
      · simp -dsimp [e1, e2, e3, e7, e8, hz', ha, hb]
        refine hp1 _ _ ?_
        simp -dsimp [e1, e2, e3, e7, e8]
        refine hp2 _ _ ?_
        simp -dsimp
        exact fin_ret rfl (leave_pure (by simp) (hF (by simp)))
      generalize ht1 : bitN n 1 = t1 at *
      generalize ht2 : bitN n 2 = t2 at *
      generalize ht4 : bitN n 4 = t4 at *
      generalize ht8 : bitN n 8 = t8 at *
      generalize ht16 : bitN n 16 = t16 at *
      simp -dsimp [e1, e2, e3, e7, e8, hz', ha, hb]
      refine hp1 _ _ ?_
      simp -dsimp [e1, e2, e3, e7, e8]
      refine hp2 _ _ ?_
      clear ht1 ht2 ht4 ht8 ht16 hp1 hp2 hq1 hq2 hq3
      have ha' : 0 ≤ at_ := by omega
      have hb' : at_ < words := by omega
      cases q3
      · cases t4
        all_goals
          simp -dsimp [e1, e2, e3, e7, e8]
          refine hp3 _ _ ?_
          simp -dsimp
          exact fin_ret rfl (leave_pure (by simp) (hF (by simp)))
      by_cases hi : t16 = false ∧ imm ≠ 0
      · obtain ⟨rfl, hi⟩ := hi
        have hi' : ¬ (imm : Int) = 0 := by omega
        cases t4
        all_goals
          simp -dsimp [e1, e2, e3, e7, e8]
          refine hp3 _ _ ?_
          simp -dsimp [e1, e2, e3, e7, e8, hi, hi']
          exact fin_ret rfl (leave_pure (by simp) (hF (by simp [hi])))
      have hr : (fun P : Prop => P) (t16 = true ∨ (t16 = false ∧ imm = 0)) := by
        cases t16
        · exact .inr ⟨rfl, by by_cases h0 : imm = 0; exact h0; exact absurd ⟨rfl, h0⟩ hi⟩
        · exact .inl rfl
      clear hi
      by_cases hd : t8 = true ∧ d = 0
      · obtain ⟨rfl, rfl⟩ := hd
        rcases hr with rfl | ⟨rfl, rfl⟩
        all_goals
          cases t4
          all_goals
            simp -dsimp [e1, e2, e3, e7, e8]
            refine hp3 _ _ ?_
            simp -dsimp [undef, e1, e2, e3, e7, e8]
            exact fin_ret rfl (leave_pure (by simp) (hF (by simp)))
      have hs : t8 = false ∨ (t8 = true ∧ d ≠ 0) := by
        cases t8
        · exact .inl rfl
        · exact .inr ⟨rfl, fun h0 => hd ⟨rfl, h0⟩⟩
      clear hd
      have h4e : (imm : Int).tmod 4 = ((imm % 4 : Nat) : Int) := (Int.ofNat_tmod imm 4).symm
      by_cases h60 : kind = 60 ∨ kind = 62
      · by_cases h4 : imm % 4 = 0
        · have h4' : (imm : Int).tmod 4 = 0 := by omega
          clear h4e
          rcases h60 with rfl | rfl
          all_goals
            rcases hr with rfl | ⟨rfl, rfl⟩
            all_goals
              cases t4
              all_goals
                rcases hs with rfl | ⟨rfl, hd⟩
                all_goals
                  simp -dsimp [e1, e2, e3, e7, e8]
                  refine hp3 _ _ ?_
                  simp -dsimp [undef, *]
                  try exact ⟨by omega, by omega⟩
        · have h4' : ¬ (imm : Int).tmod 4 = 0 := by omega
          clear h4e
          rcases hr with rfl | ⟨rfl, rfl⟩
          · rcases h60 with rfl | rfl
            all_goals
              cases t4
              all_goals
                rcases hs with rfl | ⟨rfl, hd⟩
                all_goals
                  simp -dsimp [e1, e2, e3, e7, e8]
                  refine hp3 _ _ ?_
                  simp -dsimp [undef, *]
                  exact fin_ret rfl (leave_pure (by simp) (hF (by simp [h4])))
          · exact absurd rfl h4
      · have h60' : ¬ kind = 60 := fun e => h60 (.inl e)
        have h62' : ¬ kind = 62 := fun e => h60 (.inr e)
        clear h4e h60
        rcases hr with rfl | ⟨rfl, rfl⟩
        all_goals
          cases t4
          all_goals
            rcases hs with rfl | ⟨rfl, hd⟩
            all_goals
              simp -dsimp [e1, e2, e3, e7, e8]
              refine hp3 _ _ ?_
              simp -dsimp [undef, *]
              try exact ⟨by omega, by omega⟩
    · rintro env m' ⟨hh, e2, e3, e7, rfl⟩
      have hrl := readsQ_len o
      have hri := reads_in hh
      have hF : (readsQ o).all (fun p => !decide (34 ≤ p) || w.getD p.toNat false) = false → Q (.bool false) m := by
        intro e
        have e' : iRightQ o words w = false := by unfold iRightQ; rw [e, Bool.and_false]
        rw [iRightM, e'] at h; simpa using h
      generalize hrd : readsQ o = rd at *
      have hrt := fun m kk hf Q h => oreads_tc o m kk hf Q h
      rw [hrd] at hrt
      refine wpc_mid (fun env m' => rd.all (fun p => !decide (34 ≤ p) || w.getD p.toNat false) = true ∧ elook env 2 = some (.pointer (some ⟨k, 0, none⟩)) ∧ elook env 3 = some (.pointer (some ⟨m.top, 0, none⟩)) ∧ elook env 7 = some (.pointer (some ⟨m.top + 1, 0, none⟩)) ∧
        ∃ os, m' = { base := m.get, n := m.top, loc := opO o :: shapeO (sortN o.kind) :: os }) ?_ ?_
      · refine wpc_st fun K hK => ?_
        simp -dsimp [e2, e3, e7, opO]
        refine hrt _ (m.top + 2) (by simp [get_loc]) _ ?_
        by_cases hr0 : rd = []
        · subst hr0
          simp -dsimp [lstV, lstM, e2, e3, e7]
          refine hK _ _ ?_
          clear hK K
          simp -dsimp [e2, e3, e7]
          refine loop_by (fun f env m' => elook env 84 = some (.int .i64 0) ∧ elook env 83 = some (.int .i64 0) ∧ elook env 2 = some (.pointer (some ⟨k, 0, none⟩)) ∧ elook env 3 = some (.pointer (some ⟨m.top, 0, none⟩)) ∧ elook env 7 = some (.pointer (some ⟨m.top + 1, 0, none⟩)) ∧
            m' = { base := m.get, n := m.top, loc := [opO o, shapeO (sortN o.kind)] }) 0 (by simp -dsimp [e2, e3, e7, opO]) ?_
          rintro n env m' ⟨f84, f83, e2, e3, e7, rfl⟩
          simp -dsimp [f84, f83, e2, e3, e7]
        · simp -dsimp [lstV, lstM, hr0, e2, e3, e7]
          refine hK _ _ ?_
          clear hK K
          simp -dsimp [e2, e3, e7]
          refine loop_by (fun f env m' => ∃ i, f = rd.length - i ∧ i ≤ rd.length ∧ elook env 84 = some (.int .i64 i) ∧ elook env 83 = some (.int .i64 rd.length) ∧ elook env 82 = some (.slice (some ⟨m.top + 2, 0, none⟩) rd.length rd.length) ∧
            elook env 2 = some (.pointer (some ⟨k, 0, none⟩)) ∧ elook env 3 = some (.pointer (some ⟨m.top, 0, none⟩)) ∧ elook env 7 = some (.pointer (some ⟨m.top + 1, 0, none⟩)) ∧
            (∀ j, j < i → ∀ p, rd[j]? = some p → (!decide (34 ≤ p) || w.getD p.toNat false) = true) ∧
            m' = { base := m.get, n := m.top, loc := [opO o, shapeO (sortN o.kind), .cells false 1 (i64A rd)] }) rd.length ⟨0, by omega, by omega, by simp -dsimp [e2, e3, e7, opO]⟩ ?_
          rintro f env m' ⟨i, rfl, hi, f84, f83, f82, e2, e3, e7, hall, rfl⟩
          by_cases hlt : i < rd.length
          · have hlt' : (i : Int) < (rd.length : Int) := by omega
            obtain ⟨p, hp⟩ : ∃ p, rd[i]? = some p := ⟨rd[i], List.getElem?_eq_getElem hlt⟩
            have hp' : (i64A rd)[i]? = some (.int .i64 p) := by simp [i64A, hp]
            by_cases h34 : 34 ≤ p
            · have hp63 : p ≤ 63 := (hri p (List.mem_of_getElem? hp)).2
              obtain ⟨q, rfl⟩ : ∃ q : Nat, p = q := ⟨p.toNat, by omega⟩
              have hq64 : q < 64 := by omega
              have hq64' : (q : Int) < 64 := by omega
              have hkt : k < m.top := get_lt (by rw [hk]; intro e; cases e)
              have hkk : ({ base := m.get, n := m.top, loc := [opO o, shapeO (sortN o.kind), .cells false 1 (i64A rd)] } : Mem).get k = boolsO w := by rw [get_base _ _ _ hkt, hk]
              have hqw : q < w.length := by omega
              obtain ⟨bq, hbq⟩ : ∃ bq, w[q] = bq := ⟨_, rfl⟩
              have hwq : w[q]? = some bq := by rw [List.getElem?_eq_getElem hqw, hbq]
              have hwk : ((w.map Value.bool).toArray)[q]? = some (.bool bq) := by simp [hwq]
              cases bq
              · simp -dsimp [f84, f83, f82, e2, e3, e7, hlt, hlt', hp', h34, undef, hkk, boolsO, hw, hwk, hq64, hq64', hbq]
                exact fin_ret rfl (leave_pure (by simp) (hF (by rw [List.all_eq_false]; exact ⟨_, List.mem_of_getElem? hp, by simp [hwq]; omega⟩)))
              · simp -dsimp [f84, f83, f82, e2, e3, e7, hlt, hlt', hp', h34, undef, hkk, boolsO, hw, hwk, hq64, hq64', hbq]
                refine ⟨rd.length - (i + 1), by omega, i + 1, rfl, by omega, by rw [wI64 (by omega) (by omega)]; omega, fun j hj p' hp'' => ?_⟩
                by_cases hji : j < i
                · simpa using hall j hji p' hp''
                · have : j = i := by omega
                  subst this; rw [hp] at hp''; cases hp''; exact .inr (by simp [hwq])
            · simp -dsimp [f84, f83, f82, e2, e3, e7, hlt, hlt', hp', h34, undef]
              refine ⟨rd.length - (i + 1), by omega, i + 1, rfl, by omega, by rw [wI64 (by omega) (by omega)]; omega, fun j hj p' hp'' => ?_⟩
              by_cases hji : j < i
              · simpa using hall j hji p' hp''
              · have : j = i := by omega
                subst this; rw [hp] at hp''; cases hp''; exact .inl (by omega)
          · have hlt' : ¬ (i : Int) < (rd.length : Int) := by omega
            have hall' : rd.all (fun p => !decide (34 ≤ p) || w.getD p.toNat false) = true := by
              rw [List.all_eq_true]
              intro p hp
              obtain ⟨j, hj, rfl⟩ := List.getElem_of_mem hp
              exact hall j (by omega) _ (List.getElem?_eq_getElem hj)
            simp -dsimp [f84, f83, f82, e2, e3, e7, hlt']
            simpa using List.all_eq_true.mp hall'
      · rintro env m' ⟨hall, e2, e3, e7, os, rfl⟩
        have hkt : k < m.top := get_lt (by rw [hk]; intro e; cases e)
        have hkk : ({ base := m.get, n := m.top, loc := opO o :: shapeO (sortN o.kind) :: os } : Mem).get k = boolsO w := by rw [get_base _ _ _ hkt, hk]
        have hR : iRightQ o words w = true := by unfold iRightQ; rw [hh, hrd, hall]; rfl
        rw [hR, iRightM, hR] at h
        cases h8 : bitN (sortN o.kind) 8
        · rw [h8] at h
          simp -dsimp [e2, e3, e7, opO, shapeO, h8]
          exact fin_ret rfl (leave_pure (by simp) (by simpa using h))
        · rw [h8] at h
          have hd : 0 ≤ o.d ∧ o.d ≤ 63 := by
            simp only [iRightH, Bool.and_eq_true] at hh
            obtain ⟨⟨⟨⟨⟨⟨⟨⟨h0, h1⟩, h2⟩, ha⟩, hb⟩, hd⟩, h6⟩, h7⟩, h9⟩ := hh
            simpa [h8, placeQ] using hd
          have hd0 := hd.1
          have hd1 : o.d < 64 := by omega
          simp -dsimp [e2, e3, e7, opO, shapeO, h8, hd0, hd1]
          simp only [opO, shapeO, h8] at hkk
          obtain ⟨q, hq⟩ : ∃ q : Nat, o.d = q := ⟨o.d.toNat, by omega⟩
          have hq64 : q < 64 := by omega
          have hq64' : (q : Int) < 64 := by omega
          have hgt : ∀ os, ({ base := m.get, n := m.top, loc := os } : Mem).get k = boolsO w := fun os => by rw [get_base _ _ _ hkt, hk]
          refine draw_go 4 [0, 0, 2, 1, 15, 31] (by kernel_rfl) (by kernel_rfl) ?_
          have hq63 : q ≤ 63 := by omega
          simp -dsimp [e2, e3, e7, hq, hq64, hq64', hq63, hgt, boolsO, hw, hkt]
          have hms : (List.map Value.bool w).set q (.bool true) = List.map Value.bool (w.set q true) := by rw [List.map_set]
          rw [hms]
          refine fin_ret rfl ?_
          rw [show ∀ os o, ({ base := m.get, n := m.top, loc := os } : Mem).put k o = { base := Mset m.get k o, n := m.top, loc := os } from fun os o => by unfold Mem.put; rw [if_pos hkt]]
          refine (leave_put (v := .bool true) (o := boolsO (w.set q true)) (by rw [hk]; intro e; cases e) (by intro e; cases e) (by simp) (fun x hx => okS_gnd0 ?_) ?_)
          · simp only [List.mem_toArray, List.mem_map] at hx
            obtain ⟨_, _, rfl⟩ := hx; rfl
          · simpa [hq] using h
end Go.Lm
/- ir.Check. -/
set_option linter.unusedSimpArgs false
set_option linter.unusedVariables false
namespace Go.Lm
open Go.Proofs

def opL (o : OpZ) : List Value := [.int .i64 o.kind, .int .i64 o.d, .int .i64 o.a, .int .i64 o.b, .int .u32 o.imm, .int .i64 o.at_]
/-- Operations in memory. -/
def OpsAt (m : Mem) (v : Value) (l : List OpZ) : Prop :=
  (l = [] ∧ v = .slice none 0 0) ∨ ∃ k off cap ro c, v = .slice (some ⟨k, off, none⟩) l.length cap ∧ l.length ≤ cap ∧ m.get k = .cells ro 6 c ∧ off + cap * 6 ≤ c.size ∧
    ∀ (j : Nat) (o : OpZ), l[j]? = some o → c.extract (off + j * 6) (off + j * 6 + 6) = (opL o).toArray
/-- what is written after an operation -/
def wrQ (o : OpZ) (w : List Bool) : List Bool := if bitN (sortN o.kind) 8 then w.set o.d.toNat true else w
def checkL (words : Nat) : List Bool → Int → List OpZ → Bool
  | _, _, [] => true
  | w, at0, o :: l => iRightQ o words w && !decide (o.at_ < at0) && (decide (60 ≤ o.kind) == decide (l = [])) && checkL words (wrQ o w) o.at_ l
def checkQ (pc : Nat) (ws : List Nat) (ops : List OpZ) : Bool :=
  decide (pc % 4 = 0) && rightQ ws && decide (pc + 4 * ws.length ≤ 4294967296) && decide (1 ≤ ops.length) && decide (ops.length ≤ 120) && checkL ws.length (List.replicate 64 false) 0 ops

set_option maxRecDepth 100000 in
set_option maxHeartbeats 8000000 in
theorem ircheck_tc (pc : Nat) (hpc : pc < 2 ^ 32) (ws : List Nat) (vw : Value) (ops : List OpZ) (vo : Value) (m : Mem) (hw : WordsAt m vw ws) (ho : OpsAt m vo ops) (Q) (h : Q (.bool (checkQ pc ws ops)) m) :
    TC Try.prog 96 [.agg #[.int .u32 pc, vw, vo]] m Q := by
  refine TC_fn mixed Try.func96 rfl Try.ntmps96 rfl (by decide) (by simp) ?_
  have hrt : ∀ loc Q, Q (.bool (rightQ ws)) { base := m.get, n := m.top, loc := loc } → TC Try.prog 133 [vw] { base := m.get, n := m.top, loc := loc } Q := fun loc Q h => right_tc ws vw _ (WordsAt_enter hw loc) Q h
  have hlw : ∃ a cap, vw = .slice a ws.length cap := by
    rcases hw.2 with ⟨rfl, rfl⟩ | ⟨k, off, cap, ro, c, rfl, _⟩
    · exact ⟨_, _, rfl⟩
    · exact ⟨_, _, rfl⟩
  have hlo : ∃ a cap, vo = .slice a ops.length cap := by
    rcases ho with ⟨rfl, rfl⟩ | ⟨k, off, cap, ro, c, rfl, _⟩
    · exact ⟨_, _, rfl⟩
    · exact ⟨_, _, rfl⟩
  obtain ⟨aw, cw, hlw⟩ := hlw
  obtain ⟨ao, co, hlo⟩ := hlo
  refine wpc_st fun K hK => ?_
  simp -dsimp
  refine hK _ _ ?_
  clear hK K
  refine wpc_st fun K hK => ?_
  simp -dsimp [hlw]
  refine hK _ _ ?_
  clear hK K
  have h4e : (pc : Int).tmod 4 = ((pc % 4 : Nat) : Int) := (Int.ofNat_tmod pc 4).symm
  by_cases h4 : pc % 4 = 0
  · have h4' : (pc : Int).tmod 4 = 0 := by omega
    clear h4e
    generalize hq : rightQ ws = rq at hrt
    cases rq
    · have hF : checkQ pc ws ops = false := by unfold checkQ; rw [hq]; simp
      rw [hF] at h
      subst hlw
      simp -dsimp [h4', undef]
      refine hrt _ _ ?_
      simp -dsimp
      exact fin_ret rfl (leave_pure (by simp) h)
    · subst hlw hlo
      have h16 : 1 ≤ ws.length ∧ ws.length ≤ 16 := by
        unfold rightQ at hq
        simp only [Bool.and_eq_true, decide_eq_true_eq] at hq
        exact hq.1
      have ew : IntKind.u64.wrap (ws.length : Int) = ws.length := wU64 (by omega) (by omega)
      have epc : IntKind.u64.wrap (pc : Int) = pc := wU64 (by omega) (by omega)
      have e2 : IntKind.u64.wrap (4 * (ws.length : Int)) = 4 * ws.length := wU64 (by omega) (by omega)
      have e3 : IntKind.u64.wrap ((pc : Int) + 4 * (ws.length : Int)) = pc + 4 * ws.length := wU64 (by omega) (by omega)
      by_cases hb : 4294967296 < pc + 4 * ws.length
      · have hF : checkQ pc ws ops = false := by unfold checkQ; rw [decide_eq_false (by omega : ¬ pc + 4 * ws.length ≤ 4294967296)]; simp
        rw [hF] at h
        have hb' : (4294967296 : Int) < pc + 4 * ws.length := by omega
        simp -dsimp [h4', undef]
        refine hrt _ _ ?_
        simp -dsimp [ew, epc, e2, e3, hb', undef]
        exact fin_ret rfl (leave_pure (by simp) h)
      · have hb' : ¬ (4294967296 : Int) < pc + 4 * ws.length := by omega
        by_cases hl1 : ops.length < 1
        · have hF : checkQ pc ws ops = false := by unfold checkQ; rw [decide_eq_false (by omega : ¬ 1 ≤ ops.length)]; simp
          rw [hF] at h
          have hl1' : (ops.length : Int) < 1 := by omega
          simp -dsimp [h4', undef]
          refine hrt _ _ ?_
          simp -dsimp [ew, epc, e2, e3, hb', hl1', undef]
          exact fin_ret rfl (leave_pure (by simp) h)
        · have hl1' : ¬ (ops.length : Int) < 1 := by omega
          by_cases hl2 : 120 < ops.length
          · have hF : checkQ pc ws ops = false := by unfold checkQ; rw [decide_eq_false (by omega : ¬ ops.length ≤ 120)]; simp
            rw [hF] at h
            have hl2' : (120 : Int) < ops.length := by omega
            simp -dsimp [h4', undef]
            refine hrt _ _ ?_
            simp -dsimp [ew, epc, e2, e3, hb', hl1', hl2', undef]
            exact fin_ret rfl (leave_pure (by simp) h)
          · have hl2' : ¬ (120 : Int) < ops.length := by omega
            refine wpc_sq fun K hK => ?_
            simp -dsimp [h4', undef]
            refine hrt _ _ ?_
            simp -dsimp [ew, epc, e2, e3, hb', hl1', hl2', undef]
            refine hK _ _ ?_
            clear hK K hrt
            have hC : checkQ pc ws ops = checkL ws.length (List.replicate 64 false) 0 ops := by
              unfold checkQ
              rw [hq, decide_eq_true h4, decide_eq_true (by omega : pc + 4 * ws.length ≤ 4294967296), decide_eq_true (by omega : 1 ≤ ops.length), decide_eq_true (by omega : ops.length ≤ 120)]
              rfl
            rw [hC] at h
            refine wpc_st fun K hK => ?_
            simp -dsimp
            refine hK _ _ ?_
            clear hK K
            refine wpc_st fun K hK => ?_
            simp -dsimp
            refine hK _ _ ?_
            clear hK K
            rcases ho with ⟨e, _⟩ | ⟨k, off, cap, ro, c, e, hcap, hm, hsz, hc⟩
            · exact absurd (by rw [e]; rfl : ops.length = 0) (by omega)
            simp only [Value.slice.injEq, true_and] at e
            obtain ⟨rfl, rfl⟩ := e
            have htop := lt_cells hm
            have hrep : Array.replicate 64 (Value.bool false) = ((List.replicate 64 false).map Value.bool).toArray := by simp only [List.map_replicate, List.toArray_replicate]
            generalize hX : checkL ws.length (List.replicate 64 false) 0 ops = X at h hC
            simp -dsimp
            refine loop_by (fun n env m' => ∃ (i : Nat) (w : List Bool) (at0 : Int) (os : List Ob), n = ops.length - i ∧ i ≤ ops.length ∧ w.length = 64 ∧ X = checkL ws.length w at0 (ops.drop i) ∧
              elook env 1 = some (.pointer (some ⟨m.top, 0, none⟩)) ∧ elook env 3 = some (.int .i64 ws.length) ∧ elook env 4 = some (.pointer (some ⟨m.top + 1, 0, none⟩)) ∧ elook env 5 = some (.int .i64 at0) ∧
              elook env 44 = some (.slice (some ⟨k, off, none⟩) ops.length co) ∧ elook env 45 = some (.int .i64 ops.length) ∧ elook env 46 = some (.int .i64 i) ∧
              m' = { base := m.get, n := m.top, loc := .cells false 0 #[.int .u32 pc, .slice aw ws.length cw, .slice (some ⟨k, off, none⟩) ops.length co] :: boolsO w :: os }) ops.length
              ⟨0, List.replicate 64 false, 0, [], by omega, by omega, by simp, by rw [List.drop_zero, hX], by simp -dsimp [hrep, boolsO]⟩ ?_
            rintro n env m' ⟨i, w, at0, os, rfl, hi, hwl, hres, e1, e3, e4, e5, e44, e45, e46, rfl⟩
            clear hrep hC hX
            by_cases hlt : i < ops.length
            · have hlt' : (i : Int) < (ops.length : Int) := by omega
              obtain ⟨o, ho⟩ : ∃ o, ops[i]? = some o := ⟨ops[i], List.getElem?_eq_getElem hlt⟩
              have hdrop : ops.drop i = o :: ops.drop (i + 1) := by
                rw [List.drop_eq_getElem_cons hlt]
                rw [List.getElem?_eq_getElem hlt] at ho; cases ho; rfl
              rw [hdrop] at hres
              have hco := hc i o ho
              have hsz2 : off + i * 6 + 6 ≤ c.size := by
                have : (i + 1) * 6 ≤ co * 6 := Nat.mul_le_mul_right 6 (by omega)
                omega
              have hgt : ∀ os, ({ base := m.get, n := m.top, loc := os } : Mem).get k = .cells ro 6 c := fun os => by rw [get_base _ _ _ htop, hm]
              refine wpc_st fun K hK => ?_
              simp -dsimp [e46, e45, hlt']
              refine hK _ _ ?_
              clear hK K
              refine wpc_sq fun K hK => ?_
              simp -dsimp
              refine hK _ _ ?_
              clear hK K
              refine wpc_mid (fun env' m' => checkL ws.length w at0 (o :: ops.drop (i + 1)) = checkL ws.length (wrQ o w) o.at_ (ops.drop (i + 1)) ∧ elook env' 1 = elook env 1 ∧ elook env' 3 = elook env 3 ∧ elook env' 4 = elook env 4 ∧
                elook env' 5 = some (.int .i64 o.at_) ∧ elook env' 44 = elook env 44 ∧ elook env' 45 = elook env 45 ∧ elook env' 46 = elook env 46 ∧
                ∃ os, m' = { base := m.get, n := m.top, loc := .cells false 0 #[.int .u32 pc, .slice aw ws.length cw, .slice (some ⟨k, off, none⟩) ops.length co] :: boolsO (wrQ o w) :: os }) ?_ ?_
              · rw [wpc_block]
                refine wpc_st fun K hK => ?_
                simp -dsimp [e44, e46, hlt', hgt, hsz2, hco, opL]
                refine hK _ _ ?_
                clear hK K hgt hm hc hco
                have hrt := fun (m' : Mem) hk Q h => irright_tc o ws.length w hwl (m.top + 1) m' hk Q h
                rw [opV] at hrt
                refine wpc_sq fun K hK => ?_
                simp -dsimp [e3, e4]
                refine hrt _ (by simp [get_loc]) _ ?_
                have hstep : checkL ws.length w at0 (o :: ops.drop (i + 1)) = (iRightQ o ws.length w && !decide (o.at_ < at0) && (decide (60 ≤ o.kind) == decide (ops.drop (i + 1) = [])) && checkL ws.length (wrQ o w) o.at_ (ops.drop (i + 1))) := rfl
                unfold iRightM
                cases hR : iRightQ o ws.length w
                · rw [hstep, hR] at hres
                  simp only [Bool.false_and] at hres
                  rw [hres] at h
                  simp -dsimp [undef]
                  exact fin_ret rfl (leave_pure (by simp) h)
                · have hM : ∀ A os', (if (true && bitN (sortN o.kind) 8) = true then ({ base := m.get, n := m.top, loc := A :: boolsO w :: os' } : Mem).put (m.top + 1) (boolsO (w.set o.d.toNat true)) else { base := m.get, n := m.top, loc := A :: boolsO w :: os' }) = { base := m.get, n := m.top, loc := A :: boolsO (wrQ o w) :: os' } := by
                    intro A os'; unfold wrQ; cases bitN (sortN o.kind) 8 <;> simp [put_loc]
                  rw [hM]
                  have hkw0 : IntKind.i64.wrap ((ops.length : Int) - 1) = (ops.length : Int) - 1 := wI64 (by omega) (by omega)
                  by_cases hat : o.at_ < at0
                  · rw [hstep, decide_eq_true hat] at hres
                    simp only [Bool.not_true, Bool.and_false, Bool.false_and] at hres
                    rw [hres] at h
                    simp -dsimp [undef, e5, hat]
                    exact fin_ret rfl (leave_pure (by simp) h)
                  · have hdl : (ops.drop (i + 1) = []) ↔ i + 1 = ops.length := by
                      rw [List.drop_eq_nil_iff]; omega
                    rw [hR, decide_eq_false hat] at hstep
                    simp only [Bool.true_and, Bool.not_false, Bool.and_true] at hstep
                    by_cases hk60 : 60 ≤ o.kind
                    · by_cases hla : i + 1 = ops.length
                      · rw [decide_eq_true hk60, decide_eq_true (hdl.2 hla)] at hstep
                        have hla' : ((i : Int) == (ops.length : Int) - 1) = true := by simp; omega
                        simp -dsimp [undef, e1, e5, hat, hk60, hkw0, hla']
                        refine hK _ _ ?_
                        clear hK K
                        simp -dsimp
                        exact hstep
                      · rw [decide_eq_true hk60, decide_eq_false (fun e => hla (hdl.1 e))] at hstep
                        rw [hstep] at hres
                        have hres : X = false := hres
                        have hla' : ((i : Int) == (ops.length : Int) - 1) = false := by simp; omega
                        rw [hres] at h
                        simp -dsimp [undef, e1, e5, hat, hk60, hkw0, hla']
                        exact fin_ret rfl (leave_pure (by simp) h)
                    · by_cases hla : i + 1 = ops.length
                      · rw [decide_eq_false hk60, decide_eq_true (hdl.2 hla)] at hstep
                        rw [hstep] at hres
                        have hres : X = false := hres
                        have hla' : ((i : Int) == (ops.length : Int) - 1) = true := by simp; omega
                        rw [hres] at h
                        simp -dsimp [undef, e1, e5, hat, hk60, hkw0, hla']
                        exact fin_ret rfl (leave_pure (by simp) h)
                      · rw [decide_eq_false hk60, decide_eq_false (fun e => hla (hdl.1 e))] at hstep
                        have hla' : ((i : Int) == (ops.length : Int) - 1) = false := by simp; omega
                        simp -dsimp [undef, e1, e5, hat, hk60, hkw0, hla']
                        refine hK _ _ ?_
                        clear hK K
                        simp -dsimp
                        exact hstep
              · rintro env' m' ⟨hq2, f1, f3, f4, f5, f44, f45, f46, os, rfl⟩
                rw [hq2] at hres
                rw [e1] at f1; rw [e3] at f3; rw [e4] at f4; rw [e44] at f44; rw [e45] at f45; rw [e46] at f46
                have hkw1 : IntKind.i64.wrap ((i : Int) + 1) = ((i + 1 : Nat) : Int) := wI64 (by omega) (by omega)
                simp -dsimp [f46, hkw1]
                exact ⟨ops.length - (i + 1), by omega, i + 1, rfl, by omega, wrQ o w, by unfold wrQ; split <;> simp [hwl], o.at_, hres, f1, f3, f4, f5, f44, f45, by omega, rfl⟩
            · have hlt' : ¬ (i : Int) < (ops.length : Int) := by omega
              rw [List.drop_eq_nil_of_le (by omega)] at hres
              rw [hres] at h
              simp -dsimp [e46, e45, hlt']
              exact fin_ret rfl (leave_pure (by simp) h)
  · have h4' : ¬ (pc : Int).tmod 4 = 0 := by omega
    have hF : checkQ pc ws ops = false := by unfold checkQ; rw [decide_eq_false h4]; simp
    rw [hF] at h
    simp -dsimp [h4', undef]
    exact fin_ret rfl (leave_pure (by simp) h)
end Go.Lm
/- ref17.Check. -/
set_option linter.unusedSimpArgs false
set_option linter.unusedVariables false
namespace Go.Lm
open Go.Proofs

theorem bit32 {k : Int} (h : sortN k ≠ 0) : bitN (sortN k) 32 = decide (60 ≤ k) := by
  revert h
  unfold sortN
  (repeat' split) <;> intro h <;> simp_all [bitN] <;> omega
theorem bit32_0 : bitN 0 32 = false := by decide

def readsOk (o : OpZ) (w : List Bool) : Bool := (readsQ o).all fun p => !decide (34 ≤ p) || w.getD p.toNat false
/-- the document's order of the questions -/
theorem rstep (o : OpZ) (words : Int) (w : List Bool) (L : Bool) : (iRightQ o words w && (decide (60 ≤ o.kind) == L)) =
    (fieldsQ o && decide (0 ≤ o.at_) && decide (o.at_ < words) && readsOk o w && (bitN (sortN o.kind) 32 == L) && !(!decide (o.kind = 61) && bitN (sortN o.kind) 32 && !decide (o.imm % 4 = 0))) := by
  unfold iRightQ iRightH fieldsQ readsOk
  by_cases h0 : sortN o.kind = 0
  · simp [h0]
  · have hb := bit32 h0
    have hk : 60 ≤ o.kind → o.kind = 60 ∨ o.kind = 61 ∨ o.kind = 62 := by
      intro h
      revert h0
      unfold sortN
      (repeat' split) <;> intro h0 <;> omega
    have hlt : decide (60 ≤ o.kind) = (decide (o.kind = 60) || decide (o.kind = 61) || decide (o.kind = 62)) := by
      rw [Bool.eq_iff_iff]; simp; omega
    have hp : ∀ a (b : Bool), placeQ a b = (inQ a && (b || decide (a = 0))) := by
      intro a b
      unfold placeQ inQ
      cases b
      · rw [Bool.eq_iff_iff]; simp; omega
      · simp
    have hj : (!((decide (o.kind = 60) || decide (o.kind = 62)) && !decide (o.imm % 4 = 0))) = !(!decide (o.kind = 61) && decide (60 ≤ o.kind) && !decide (o.imm % 4 = 0)) := by
      rw [hlt]
      by_cases h61 : o.kind = 61
      · simp [h61]
      · simp only [h61, decide_false, Bool.or_false, Bool.not_false, Bool.true_and]
    rw [hb, hp, hp, hp, decide_eq_false h0, hj]
    simp only [Bool.not_and (bitN (sortN o.kind) 8) (decide (o.d = 0))]
    ac_rfl

theorem fields_in {o : OpZ} (h : fieldsQ o = true) : ∀ p ∈ readsQ o, 0 ≤ p ∧ p ≤ 63 := by
  simp only [fieldsQ, inQ, Bool.and_eq_true, decide_eq_true_eq] at h
  obtain ⟨⟨⟨⟨⟨⟨⟨⟨h0, hd⟩, ha⟩, hb⟩, h1⟩, h2⟩, h3⟩, h4⟩, h5⟩ := h
  intro p hp
  rw [readsQ_eq] at hp
  simp only [List.mem_append] at hp
  rcases hp with (hp | hp) | hp
  all_goals
    split at hp
    · simp at hp; subst hp; assumption
    · simp at hp
theorem fields_d {o : OpZ} (h : fieldsQ o = true) : 0 ≤ o.d ∧ o.d ≤ 63 := by
  simp only [fieldsQ, inQ, Bool.and_eq_true, decide_eq_true_eq] at h
  exact h.1.1.1.1.1.1.1.2

set_option maxRecDepth 100000 in
set_option maxHeartbeats 16000000 in
theorem rcheck_tc (pc : Nat) (hpc : pc < 2 ^ 32) (ws : List Nat) (vw : Value) (ops : List OpZ) (vo : Value) (m : Mem) (hw : WordsAt m vw ws) (ho : OpsAt m vo ops) (Q) (h : Q (.bool (checkQ pc ws ops)) m) :
    TC Try.prog 104 [.agg #[.int .u32 pc, vw, vo]] m Q := by
  refine TC_fn mixed Try.func104 rfl Try.ntmps104 rfl (by decide) (by simp) ?_
  have hrt : ∀ loc Q, Q (.bool (rightQ ws)) { base := m.get, n := m.top, loc := loc } → TC Try.prog 107 [vw] { base := m.get, n := m.top, loc := loc } Q := fun loc Q h => rright_tc ws vw _ (WordsAt_enter hw loc) Q h
  have hlw : ∃ a cap, vw = .slice a ws.length cap := by
    rcases hw.2 with ⟨rfl, rfl⟩ | ⟨k, off, cap, ro, c, rfl, _⟩
    · exact ⟨_, _, rfl⟩
    · exact ⟨_, _, rfl⟩
  have hlo : ∃ a cap, vo = .slice a ops.length cap := by
    rcases ho with ⟨rfl, rfl⟩ | ⟨k, off, cap, ro, c, rfl, _⟩
    · exact ⟨_, _, rfl⟩
    · exact ⟨_, _, rfl⟩
  obtain ⟨aw, cw, hlw⟩ := hlw
  obtain ⟨ao, co, hlo⟩ := hlo
  refine wpc_st fun K hK => ?_
  simp -dsimp
  refine hK _ _ ?_
  clear hK K
  refine wpc_st fun K hK => ?_
  simp -dsimp [hlo]
  refine hK _ _ ?_
  clear hK K
  have h4e : (pc : Int).tmod 4 = ((pc % 4 : Nat) : Int) := (Int.ofNat_tmod pc 4).symm
  by_cases h4 : pc % 4 = 0
  · have h4' : (pc : Int).tmod 4 = 0 := by omega
    clear h4e
    generalize hq : rightQ ws = rq at hrt
    cases rq
    · have hF : checkQ pc ws ops = false := by unfold checkQ; rw [hq]; simp
      rw [hF] at h
      subst hlw
      simp -dsimp [h4', undef]
      refine hrt _ _ ?_
      simp -dsimp
      exact fin_ret rfl (leave_pure (by simp) h)
    · subst hlw hlo
      have h16 : 1 ≤ ws.length ∧ ws.length ≤ 16 := by
        unfold rightQ at hq
        simp only [Bool.and_eq_true, decide_eq_true_eq] at hq
        exact hq.1
      have epc : IntKind.i64.wrap (pc : Int) = pc := wI64 (by omega) (by omega)
      have e2 : IntKind.i64.wrap (4 * (ws.length : Int)) = 4 * ws.length := wI64 (by omega) (by omega)
      have e3 : IntKind.i64.wrap ((pc : Int) + 4 * (ws.length : Int)) = pc + 4 * ws.length := wI64 (by omega) (by omega)
      by_cases hb : 4294967296 < pc + 4 * ws.length
      · have hF : checkQ pc ws ops = false := by unfold checkQ; rw [decide_eq_false (by omega : ¬ pc + 4 * ws.length ≤ 4294967296)]; simp
        rw [hF] at h
        have hb' : (4294967296 : Int) < pc + 4 * ws.length := by omega
        simp -dsimp [h4', undef]
        refine hrt _ _ ?_
        simp -dsimp [epc, e2, e3, hb', undef]
        exact fin_ret rfl (leave_pure (by simp) h)
      · have hb' : ¬ (4294967296 : Int) < pc + 4 * ws.length := by omega
        by_cases hl1 : ops.length < 1
        · have hF : checkQ pc ws ops = false := by unfold checkQ; rw [decide_eq_false (by omega : ¬ 1 ≤ ops.length)]; simp
          rw [hF] at h
          have hl1' : (ops.length : Int) < 1 := by omega
          simp -dsimp [h4', undef]
          refine hrt _ _ ?_
          simp -dsimp [epc, e2, e3, hb', hl1', undef]
          exact fin_ret rfl (leave_pure (by simp) h)
        · have hl1' : ¬ (ops.length : Int) < 1 := by omega
          by_cases hl2 : 120 < ops.length
          · have hF : checkQ pc ws ops = false := by unfold checkQ; rw [decide_eq_false (by omega : ¬ ops.length ≤ 120)]; simp
            rw [hF] at h
            have hl2' : (120 : Int) < ops.length := by omega
            simp -dsimp [h4', undef]
            refine hrt _ _ ?_
            simp -dsimp [epc, e2, e3, hb', hl1', hl2', undef]
            exact fin_ret rfl (leave_pure (by simp) h)
          · have hl2' : ¬ (120 : Int) < ops.length := by omega
            refine wpc_sq fun K hK => ?_
            simp -dsimp [h4', undef]
            refine hrt _ _ ?_
            simp -dsimp [epc, e2, e3, hb', hl1', hl2', undef]
            refine hK _ _ ?_
            clear hK K hrt
            have hC : checkQ pc ws ops = checkL ws.length (List.replicate 64 false) 0 ops := by
              unfold checkQ
              rw [hq, decide_eq_true h4, decide_eq_true (by omega : pc + 4 * ws.length ≤ 4294967296), decide_eq_true (by omega : 1 ≤ ops.length), decide_eq_true (by omega : ops.length ≤ 120)]
              rfl
            rw [hC] at h
            refine wpc_st fun K hK => ?_
            simp -dsimp
            refine hK _ _ ?_
            clear hK K
            rcases ho with ⟨e, _⟩ | ⟨k, off, cap, ro, c, e, hcap, hm, hsz, hc⟩
            · exact absurd (by rw [e]; rfl : ops.length = 0) (by omega)
            simp only [Value.slice.injEq, true_and] at e
            obtain ⟨rfl, rfl⟩ := e
            have htop := lt_cells hm
            have hrep : Array.replicate 64 (Value.bool false) = ((List.replicate 64 false).map Value.bool).toArray := by simp only [List.map_replicate, List.toArray_replicate]
            generalize hX : checkL ws.length (List.replicate 64 false) 0 ops = X at h hC
            refine wpc_sq fun K hK => ?_
            refine wpc_st fun K' hK' => ?_
            simp -dsimp
            refine hK' _ _ ?_
            clear hK' K'
            simp -dsimp
            refine loop_by (fun n env m' => ∃ (i : Nat) (w : List Bool) (at0 : Int) (os : List Ob), n = ops.length - i ∧ i ≤ ops.length ∧ w.length = 64 ∧ X = checkL ws.length w at0 (ops.drop i) ∧
              ((i = 0 ∧ at0 = 0) ∨ (0 < i ∧ ∃ o, ops[i - 1]? = some o ∧ o.at_ = at0)) ∧
              elook env 1 = some (.pointer (some ⟨m.top, 0, none⟩)) ∧ elook env 3 = some (.int .i64 ops.length) ∧ elook env 4 = some (.pointer (some ⟨m.top + 1, 0, none⟩)) ∧ elook env 5 = some (.int .i64 i) ∧
              m' = { base := m.get, n := m.top, loc := .cells false 0 #[.int .u32 pc, .slice aw ws.length cw, .slice (some ⟨k, off, none⟩) ops.length co] :: boolsO w :: os }) ops.length
              ⟨0, List.replicate 64 false, 0, [], by omega, by omega, by simp, by rw [List.drop_zero, hX], .inl ⟨rfl, rfl⟩, by simp -dsimp [hrep, boolsO]⟩ ?_
            rintro n env m' ⟨i, w, at0, os, rfl, hi, hwl, hres, hat0, e1, e3, e4, e5, rfl⟩
            clear hrep hC hX
            by_cases hlt : i < ops.length
            · have hlt' : (i : Int) < (ops.length : Int) := by omega
              obtain ⟨o, ho⟩ : ∃ o, ops[i]? = some o := ⟨ops[i], List.getElem?_eq_getElem hlt⟩
              have hdrop : ops.drop i = o :: ops.drop (i + 1) := by
                rw [List.drop_eq_getElem_cons hlt]
                rw [List.getElem?_eq_getElem hlt] at ho; cases ho; rfl
              rw [hdrop] at hres
              have hco := hc i o ho
              have hsz2 : off + i * 6 + 6 ≤ c.size := by
                have : (i + 1) * 6 ≤ co * 6 := Nat.mul_le_mul_right 6 (by omega)
                omega
              have hgt : ∀ os, ({ base := m.get, n := m.top, loc := os } : Mem).get k = .cells ro 6 c := fun os => by rw [get_base _ _ _ htop, hm]
              have hgo : ∀ A B rs, ({ base := m.get, n := m.top, loc := A :: B :: (os ++ opO o :: rs) } : Mem).get (m.top + (os.length + 1 + 1)) = opO o := fun A B rs => by rw [get_loc]; simp
              have hstep : checkL ws.length w at0 (o :: ops.drop (i + 1)) = ((fieldsQ o && decide (0 ≤ o.at_) && decide (o.at_ < ws.length) && readsOk o w && (bitN (sortN o.kind) 32 == decide (ops.drop (i + 1) = [])) && !(!decide (o.kind = 61) && bitN (sortN o.kind) 32 && !decide (o.imm % 4 = 0))) && !decide (o.at_ < at0) && checkL ws.length (wrQ o w) o.at_ (ops.drop (i + 1))) := by
                rw [← rstep]
                show (iRightQ o ws.length w && !decide (o.at_ < at0) && (decide (60 ≤ o.kind) == decide (ops.drop (i + 1) = [])) && checkL ws.length (wrQ o w) o.at_ (ops.drop (i + 1))) = _
                congr 1
                ac_rfl
              refine wpc_sq fun K2 hK2 => ?_
              simp -dsimp [e3, e5, hlt']
              refine hK2 _ _ ?_
              clear hK2 K2
              refine wpc_mid (fun env' m' => X = checkL ws.length (wrQ o w) o.at_ (ops.drop (i + 1)) ∧ elook env' 1 = elook env 1 ∧ elook env' 3 = elook env 3 ∧ elook env' 4 = elook env 4 ∧ elook env' 5 = elook env 5 ∧
                ∃ os, m' = { base := m.get, n := m.top, loc := .cells false 0 #[.int .u32 pc, .slice aw ws.length cw, .slice (some ⟨k, off, none⟩) ops.length co] :: boolsO (wrQ o w) :: os }) ?_ ?_
              · rw [wpc_block]
                refine wpc_st fun K2 hK2 => ?_
                simp -dsimp [e1, e5, hlt', hgt, hsz2, hco, opL]
                refine hK2 _ _ ?_
                clear hK2 K2
                refine wpc_mid (fun env' m' => (fieldsQ o = true ∧ 0 ≤ o.at_ ∧ o.at_ < ws.length ∧ ¬ o.at_ < at0) ∧ elook env' 1 = elook env 1 ∧ elook env' 3 = elook env 3 ∧ elook env' 4 = elook env 4 ∧ elook env' 5 = elook env 5 ∧ elook env' 6 = some (.pointer (some ⟨m.top + (os.length + 1 + 1), 0, none⟩)) ∧
                  m' = { base := m.get, n := m.top, loc := .cells false 0 #[.int .u32 pc, .slice aw ws.length cw, .slice (some ⟨k, off, none⟩) ops.length co] :: boolsO w :: (os ++ [opO o]) }) ?_ ?_
                · have hft := fun (m' : Mem) Q h => fields_tc o m' Q h
                  rw [opV] at hft
                  simp -dsimp
                  refine draw_go 29 [0, 1, 3, 7, 15, 31, 63, 127, 255, 511, 1023, 511, 2559, 6655, 16383, 32767, 65535, 131071, 262143, 524287, 1048575, 2097151, 1048575, 5242879, 1048575, 17825791, 63963135, 131071999, 265289727, 536870911, 1073741823, 2147483647] (by kernel_rfl) (by kernel_rfl) ?_
                  simp -dsimp -implicitDefEqProofs
                  refine .inl ⟨_, fun m' _ => hft _ _ ⟨rfl, rfl⟩, drw_go ?_⟩
                  cases hfq : fieldsQ o
                  · rw [hstep, hfq] at hres
                    simp only [Bool.false_and] at hres
                    rw [hres] at h
                    simp -dsimp -implicitDefEqProofs [undef]
                    exact fin_ret rfl (leave_pure (by simp) h)
                  · by_cases hn : o.at_ < 0
                    · rw [hstep, decide_eq_false (by omega : ¬ 0 ≤ o.at_)] at hres
                      simp only [Bool.and_false, Bool.false_and] at hres
                      rw [hres] at h
                      simp -dsimp -implicitDefEqProofs [undef, hn]
                      exact fin_ret rfl (leave_pure (by simp) h)
                    · by_cases hw1 : (ws.length : Int) ≤ o.at_
                      · rw [hstep, decide_eq_false (by omega : ¬ o.at_ < ws.length)] at hres
                        simp only [Bool.and_false, Bool.false_and] at hres
                        rw [hres] at h
                        simp -dsimp -implicitDefEqProofs [undef, hn, e1, hw1]
                        exact fin_ret rfl (leave_pure (by simp) h)
                      · by_cases hi0 : i = 0
                        · have hi0' : ¬ (0 : Int) < (i : Int) := by omega
                          have hi0n : ¬ 0 < i := by omega
                          have hat : at0 = 0 := by
                            rcases hat0 with ⟨_, q⟩ | ⟨q, _⟩
                            · exact q
                            · omega
                          simp -dsimp -implicitDefEqProofs [undef, hn, e1, e5, hw1, hi0', hi0n]
                          exact ⟨⟨by omega, by omega, by omega⟩, rfl⟩
                        · have hi0' : (0 : Int) < (i : Int) := by omega
                          have hi0n : 0 < i := by omega
                          obtain ⟨o', ho', hat⟩ : ∃ o', ops[i - 1]? = some o' ∧ o'.at_ = at0 := by
                            rcases hat0 with ⟨q, _⟩ | ⟨_, q⟩
                            · omega
                            · exact q
                          have hc5 : c[off + (i - 1) * 6 + 5]? = some (.int .i64 at0) := by
                            have h1 := hc (i - 1) o' ho'
                            have h2 : (c.extract (off + (i - 1) * 6) (off + (i - 1) * 6 + 6))[5]? = some (.int .i64 at0) := by rw [h1, ← hat]; rfl
                            rw [Array.getElem?_extract] at h2
                            split at h2
                            · exact h2
                            · cases h2
                          have hkw2 : IntKind.i64.wrap ((i : Int) - 1) = ((i - 1 : Nat) : Int) := by rw [wI64 (by omega) (by omega)]; omega
                          have hlt2 : ((i - 1 : Nat) : Int) < (ops.length : Int) := by omega
                          by_cases hat2 : o.at_ < at0
                          · rw [hstep, decide_eq_true hat2] at hres
                            simp only [Bool.not_true, Bool.and_false, Bool.false_and] at hres
                            rw [hres] at h
                            simp -dsimp -implicitDefEqProofs [undef, hn, e1, e5, hw1, hi0', hi0n, hkw2, hlt2, hc5, hgt, hat2]
                            exact fin_ret rfl (leave_pure (by simp) h)
                          · simp -dsimp -implicitDefEqProofs [undef, hn, e1, e5, hw1, hi0', hi0n, hkw2, hlt2, hc5, hgt, hat2]
                            exact ⟨⟨by omega, by omega⟩, rfl⟩
                · rintro env' m' ⟨⟨hq1, hq2, hq3, hq4⟩, f1, f3, f4, f5, f6, rfl⟩
                  rw [hq1, decide_eq_true hq2, decide_eq_true hq3, decide_eq_false hq4] at hstep
                  simp only [Bool.true_and, Bool.not_false, Bool.and_true] at hstep
                  rw [e1] at f1; rw [e3] at f3; rw [e4] at f4; rw [e5] at f5
                  clear hgt hm hc hco hat0
                  have hrd := readsQ_len o
                  have hro := fun (m' : Mem) kk hf Q h => roreads_tc o m' kk hf Q h
                  have hrw := fun (m' : Mem) Q h => rowrites_tc o m' Q h
                  rw [opV] at hro hrw
                  refine wpc_mid (fun env'' m' => elook env'' 1 = some (.pointer (some ⟨m.top, 0, none⟩)) ∧ elook env'' 3 = some (.int .i64 ops.length) ∧ elook env'' 4 = some (.pointer (some ⟨m.top + 1, 0, none⟩)) ∧ elook env'' 5 = some (.int .i64 i) ∧
                    elook env'' 6 = some (.pointer (some ⟨m.top + (os.length + 1 + 1), 0, none⟩)) ∧ ∃ rs v, elook env'' 7 = some v ∧ ((readsQ o = [] ∧ v = .slice none 0 0 ∧ rs = []) ∨ (readsQ o ≠ [] ∧ v = .slice (some ⟨m.top + (os.length + 3), 0, none⟩) (readsQ o).length (readsQ o).length ∧ rs = [.cells false 1 (i64A (readsQ o))])) ∧
                    m' = { base := m.get, n := m.top, loc := .cells false 0 #[.int .u32 pc, .slice aw ws.length cw, .slice (some ⟨k, off, none⟩) ops.length co] :: boolsO w :: (os ++ opO o :: rs) }) ?_ ?_
                  · have hput : ∀ A B row, ({ base := m.get, n := m.top, loc := A :: B :: (os ++ [opO o]) } : Mem).put (m.top + (os.length + 3)) row = { base := m.get, n := m.top, loc := A :: B :: (os ++ [opO o, row]) } := fun A B row => by rw [put_loc, if_neg (by simp)]; simp
                    generalize readsQ o = rd at *
                    simp -dsimp [f6, hgo, opO]
                    refine hro _ (m.top + (os.length + 3)) (by rw [get_loc]; simp) _ ?_
                    unfold lstV lstM
                    by_cases hr0 : rd = []
                    · simp -dsimp [hr0, f1, f3, f4, f5, f6]
                      rfl
                    · simp only [opO] at hput
                      simp -dsimp [hr0, f1, f3, f4, f5, f6, hput]
                      rfl
                  · clear f1 f3 f4 f5 f6 hro
                    rintro env2 m' ⟨f1, f3, f4, f5, f6, rs, v, f7, hv, rfl⟩
                    refine wpc_mid (fun env'' m' => readsOk o w = true ∧ elook env'' 1 = some (.pointer (some ⟨m.top, 0, none⟩)) ∧ elook env'' 3 = some (.int .i64 ops.length) ∧ elook env'' 4 = some (.pointer (some ⟨m.top + 1, 0, none⟩)) ∧ elook env'' 5 = some (.int .i64 i) ∧
                      elook env'' 6 = some (.pointer (some ⟨m.top + (os.length + 1 + 1), 0, none⟩)) ∧ m' = { base := m.get, n := m.top, loc := .cells false 0 #[.int .u32 pc, .slice aw ws.length cw, .slice (some ⟨k, off, none⟩) ops.length co] :: boolsO w :: (os ++ opO o :: rs) }) ?_ ?_
                    · have hri : ∀ p ∈ readsQ o, 0 ≤ p ∧ p ≤ 63 := fields_in hq1
                      have hF : readsOk o w = false → Q (.bool false) m := by
                        intro e
                        rw [hstep, e] at hres
                        simp only [Bool.false_and] at hres
                        rw [hres] at h; exact h
                      unfold readsOk at hF ⊢
                      generalize readsQ o = rd at *
                      refine wpc_st fun K2 hK2 => ?_
                      simp -dsimp
                      refine hK2 _ _ ?_
                      clear hK2 K2
                      simp -dsimp
                      rcases hv with ⟨rfl, rfl, rfl⟩ | ⟨hr0, rfl, rfl⟩
                      · refine loop_by (fun f env m' => elook env 8 = some (.int .i64 0) ∧ elook env 7 = some (.slice none 0 0) ∧ elook env 1 = some (.pointer (some ⟨m.top, 0, none⟩)) ∧ elook env 3 = some (.int .i64 ops.length) ∧ elook env 4 = some (.pointer (some ⟨m.top + 1, 0, none⟩)) ∧ elook env 5 = some (.int .i64 i) ∧
                          elook env 6 = some (.pointer (some ⟨m.top + (os.length + 1 + 1), 0, none⟩)) ∧ m' = { base := m.get, n := m.top, loc := .cells false 0 #[.int .u32 pc, .slice aw ws.length cw, .slice (some ⟨k, off, none⟩) ops.length co] :: boolsO w :: (os ++ opO o :: []) }) 0 (by simp -dsimp [f1, f3, f4, f5, f6, f7]) ?_
                        rintro n env m' ⟨f8, f7, f1, f3, f4, f5, f6, rfl⟩
                        simp -dsimp [f8, f7, f1, f3, f4, f5, f6]
                      · refine loop_by (fun f env m' => ∃ j, f = rd.length - j ∧ j ≤ rd.length ∧ elook env 8 = some (.int .i64 j) ∧ elook env 7 = some (.slice (some ⟨m.top + (os.length + 3), 0, none⟩) rd.length rd.length) ∧ elook env 1 = some (.pointer (some ⟨m.top, 0, none⟩)) ∧ elook env 3 = some (.int .i64 ops.length) ∧ elook env 4 = some (.pointer (some ⟨m.top + 1, 0, none⟩)) ∧ elook env 5 = some (.int .i64 i) ∧
                          elook env 6 = some (.pointer (some ⟨m.top + (os.length + 1 + 1), 0, none⟩)) ∧ (∀ q, q < j → ∀ p, rd[q]? = some p → (!decide (34 ≤ p) || w.getD p.toNat false) = true) ∧
                          m' = { base := m.get, n := m.top, loc := .cells false 0 #[.int .u32 pc, .slice aw ws.length cw, .slice (some ⟨k, off, none⟩) ops.length co] :: boolsO w :: (os ++ opO o :: [.cells false 1 (i64A rd)]) }) rd.length ⟨0, by omega, by omega, by simp -dsimp [f1, f3, f4, f5, f6, f7]⟩ ?_
                        rintro f env m' ⟨j, rfl, hj, f8, f7, f1, f3, f4, f5, f6, hall, rfl⟩
                        have hgr : ∀ A B x, ({ base := m.get, n := m.top, loc := A :: B :: (os ++ opO o :: [x]) } : Mem).get (m.top + (os.length + 3)) = x := fun A B x => by rw [get_loc]; simp
                        by_cases hjl : j < rd.length
                        · have hjl' : (j : Int) < (rd.length : Int) := by omega
                          obtain ⟨p, hp⟩ : ∃ p, rd[j]? = some p := ⟨rd[j], List.getElem?_eq_getElem hjl⟩
                          have hp' : (i64A rd)[j]? = some (.int .i64 p) := by simp [i64A, hp]
                          have hkw3 : IntKind.i64.wrap ((j : Int) + 1) = ((j + 1 : Nat) : Int) := wI64 (by omega) (by omega)
                          by_cases h34 : 34 ≤ p
                          · have hp63 : p ≤ 63 := (hri p (List.mem_of_getElem? hp)).2
                            obtain ⟨q, rfl⟩ : ∃ q : Nat, p = q := ⟨p.toNat, by omega⟩
                            have hq64 : q < 64 := by omega
                            have hq64' : (q : Int) < 64 := by omega
                            have hqw : q < w.length := by omega
                            obtain ⟨bq, hbq⟩ : ∃ bq, w[q] = bq := ⟨_, rfl⟩
                            have hwq : w[q]? = some bq := by rw [List.getElem?_eq_getElem hqw, hbq]
                            have hwk : ((w.map Value.bool).toArray)[q]? = some (.bool bq) := by simp [hwq]
                            cases bq
                            · simp -dsimp [f8, f7, f1, f3, f4, f5, f6, hgr, hjl, hjl', hp', h34, undef, boolsO, hwl, hwk, hq64, hq64', hbq]
                              exact fin_ret rfl (leave_pure (by simp) (hF (by rw [List.all_eq_false]; exact ⟨_, List.mem_of_getElem? hp, by simp [hwq]; omega⟩)))
                            · simp -dsimp [f8, f7, f1, f3, f4, f5, f6, hgr, hjl, hjl', hp', h34, undef, boolsO, hwl, hwk, hq64, hq64', hbq, hkw3]
                              refine ⟨rd.length - (j + 1), by omega, j + 1, rfl, by omega, by omega, fun q' hq' p' hp'' => ?_⟩
                              by_cases hji : q' < j
                              · simpa using hall q' hji p' hp''
                              · have : q' = j := by omega
                                subst this; rw [hp] at hp''; cases hp''; exact .inr (by simp [hwq])
                          · simp -dsimp [f8, f7, f1, f3, f4, f5, f6, hgr, hjl, hjl', hp', h34, undef, hkw3]
                            refine ⟨rd.length - (j + 1), by omega, j + 1, rfl, by omega, by omega, fun q' hq' p' hp'' => ?_⟩
                            by_cases hji : q' < j
                            · simpa using hall q' hji p' hp''
                            · have : q' = j := by omega
                              subst this; rw [hp] at hp''; cases hp''; exact .inl (by omega)
                        · have hjl' : ¬ (j : Int) < (rd.length : Int) := by omega
                          have hall' : rd.all (fun p => !decide (34 ≤ p) || w.getD p.toNat false) = true := by
                            rw [List.all_eq_true]
                            intro p hp
                            obtain ⟨q, hq, rfl⟩ := List.getElem_of_mem hp
                            exact hall q (by omega) _ (List.getElem?_eq_getElem hq)
                          simp -dsimp [f8, f7, f1, f3, f4, f5, f6, hjl']
                          simpa using List.all_eq_true.mp hall'
                    · clear f1 f3 f4 f5 f6 f7 hv
                      rintro env3 m' ⟨hrok, f1, f3, f4, f5, f6, rfl⟩
                      rw [hrok] at hstep
                      simp only [Bool.true_and] at hstep
                      refine wpc_mid (fun env'' m' => elook env'' 1 = some (.pointer (some ⟨m.top, 0, none⟩)) ∧ elook env'' 3 = some (.int .i64 ops.length) ∧ elook env'' 4 = some (.pointer (some ⟨m.top + 1, 0, none⟩)) ∧ elook env'' 5 = some (.int .i64 i) ∧
                        elook env'' 6 = some (.pointer (some ⟨m.top + (os.length + 1 + 1), 0, none⟩)) ∧ m' = { base := m.get, n := m.top, loc := .cells false 0 #[.int .u32 pc, .slice aw ws.length cw, .slice (some ⟨k, off, none⟩) ops.length co] :: boolsO (wrQ o w) :: (os ++ opO o :: rs) }) ?_ ?_
                      · refine wpc_st fun K2 hK2 => ?_
                        simp -dsimp [f6, hgo, opO]
                        refine hrw _ _ ?_
                        simp -dsimp
                        refine hK2 _ _ ?_
                        clear hK2 K2 hrw
                        unfold writesO wrQ
                        cases h8 : bitN (sortN o.kind) 8
                        · simp -dsimp [f1, f3, f4, f5, f6]
                          rfl
                        · have hd := fields_d hq1
                          obtain ⟨q, hq⟩ : ∃ q : Nat, o.d = q := ⟨o.d.toNat, by omega⟩
                          have hq64 : q < 64 := by omega
                          have hq64' : (q : Int) < 64 := by omega
                          simp -dsimp [f1, f3, f4, f5, f6, hq, hq64, hq64', (by omega : q ≤ 63), boolsO, hwl]
                          simp only [opO, hq]
                      · clear f1 f3 f4 f5 f6 hrw
                        rintro env4 m' ⟨f1, f3, f4, f5, f6, rfl⟩
                        have hso := fun (m' : Mem) Q h => rsort_tc o.kind m' Q h
                        have hdl : (ops.drop (i + 1) = []) ↔ i + 1 = ops.length := by
                          rw [List.drop_eq_nil_iff]; omega
                        have hb32 : (iand .i64 ((sortN o.kind : Nat) : Int) 32 != 0) = bitN (sortN o.kind) 32 := by
                          rcases sortN_cases o.kind with e | e | e | e | e | e | e | e | e | e | e <;> rw [e] <;> decide
                        have hkw0 : IntKind.i64.wrap ((ops.length : Int) - 1) = (ops.length : Int) - 1 := wI64 (by omega) (by omega)
                        have hla' : ((i : Int) == (ops.length : Int) - 1) = decide (ops.drop (i + 1) = []) := by
                          rw [Bool.eq_iff_iff]; simp; omega
                        have hi4 : (o.imm : Int).tmod 4 = ((o.imm % 4 : Nat) : Int) := (Int.ofNat_tmod o.imm 4).symm
                        generalize hsn : sortN o.kind = sn at *
                        generalize decide (ops.drop (i + 1) = []) = la at *
                        have hfin : X = checkL ws.length (wrQ o w) o.at_ (ops.drop (i + 1)) → X = checkL ws.length (wrQ o w) o.at_ (ops.drop (i + 1)) ∧ (some (Value.pointer (some ⟨m.top, 0, none⟩)) = elook env 1 ∧ some (Value.int .i64 (ops.length : Int)) = elook env 3 ∧ some (Value.pointer (some ⟨m.top + 1, 0, none⟩)) = elook env 4 ∧ some (Value.int .i64 (i : Int)) = elook env 5) := fun h => ⟨h, e1.symm, e3.symm, e4.symm, e5.symm⟩
                        cases hbit : bitN sn 32
                        · rw [hbit] at hb32 hstep
                          cases la
                          · have hX : X = checkL ws.length (wrQ o w) o.at_ (ops.drop (i + 1)) := by rw [hres, hstep]; simp
                            by_cases h61 : o.kind = 61
                            · simp -dsimp [f1, f3, f4, f5, f6, hgo, opO]
                              refine hso _ _ ?_
                              simp -dsimp [f1, f3, f4, f5, f6, hgo, opO, undef, hb32, hkw0, hla', h61]
                              exact hfin hX
                            · simp -dsimp [f1, f3, f4, f5, f6, hgo, opO]
                              refine hso _ _ ?_
                              simp -dsimp [f1, f3, f4, f5, f6, hgo, opO, undef, hb32, hkw0, hla', h61]
                              refine hso _ _ ?_
                              simp -dsimp [f1, f3, f4, f5, f6, hgo, opO, undef, hb32, hkw0, hla', h61]
                              exact hfin hX
                          · have hX : X = false := by rw [hres, hstep]; simp
                            rw [hX] at h
                            simp -dsimp [f1, f3, f4, f5, f6, hgo, opO]
                            refine hso _ _ ?_
                            simp -dsimp [f1, f3, f4, f5, f6, hgo, opO, undef, hb32, hkw0, hla']
                            exact fin_ret rfl (leave_pure (by simp) h)
                        · rw [hbit] at hb32 hstep
                          cases la
                          · have hX : X = false := by rw [hres, hstep]; simp
                            rw [hX] at h
                            simp -dsimp [f1, f3, f4, f5, f6, hgo, opO]
                            refine hso _ _ ?_
                            simp -dsimp [f1, f3, f4, f5, f6, hgo, opO, undef, hb32, hkw0, hla']
                            exact fin_ret rfl (leave_pure (by simp) h)
                          · by_cases h61 : o.kind = 61
                            · have hX : X = checkL ws.length (wrQ o w) o.at_ (ops.drop (i + 1)) := by rw [hres, hstep, decide_eq_true h61]; simp
                              simp -dsimp [f1, f3, f4, f5, f6, hgo, opO]
                              refine hso _ _ ?_
                              simp -dsimp [f1, f3, f4, f5, f6, hgo, opO, undef, hb32, hkw0, hla', h61]
                              exact hfin hX
                            · by_cases h4i : o.imm % 4 = 0
                              · have hi4' : (o.imm : Int).tmod 4 = 0 := by omega
                                have hX : X = checkL ws.length (wrQ o w) o.at_ (ops.drop (i + 1)) := by rw [hres, hstep, decide_eq_true h4i]; simp
                                clear hi4
                                simp -dsimp [f1, f3, f4, f5, f6, hgo, opO]
                                refine hso _ _ ?_
                                simp -dsimp [f1, f3, f4, f5, f6, hgo, opO, undef, hb32, hkw0, hla', h61, hi4']
                                refine hso _ _ ?_
                                simp -dsimp [f1, f3, f4, f5, f6, hgo, opO, undef, hb32, hkw0, hla', h61, hi4']
                                exact hfin hX
                              · have hi4' : ¬ (o.imm : Int).tmod 4 = 0 := by omega
                                have hX : X = false := by rw [hres, hstep, decide_eq_false h4i, decide_eq_false h61]; simp
                                rw [hX] at h
                                clear hi4
                                simp -dsimp [f1, f3, f4, f5, f6, hgo, opO]
                                refine hso _ _ ?_
                                simp -dsimp [f1, f3, f4, f5, f6, hgo, opO, undef, hb32, hkw0, hla', h61, hi4']
                                refine hso _ _ ?_
                                simp -dsimp [f1, f3, f4, f5, f6, hgo, opO, undef, hb32, hkw0, hla', h61, hi4']
                                exact fin_ret rfl (leave_pure (by simp) h)
              · rintro env' m' ⟨hq2, f1, f3, f4, f5, os, rfl⟩
                rw [e1] at f1; rw [e3] at f3; rw [e4] at f4; rw [e5] at f5
                have hkw1 : IntKind.i64.wrap ((i : Int) + 1) = ((i + 1 : Nat) : Int) := wI64 (by omega) (by omega)
                simp -dsimp [f5, hkw1]
                exact ⟨ops.length - (i + 1), by omega, i + 1, by omega, by omega, wrQ o w, by unfold wrQ; split <;> simp [hwl], o.at_, hq2, .inr ⟨by omega, o, ho, rfl⟩, f1, f3, f4, by omega, rfl⟩
            · have hlt' : ¬ (i : Int) < (ops.length : Int) := by omega
              rw [List.drop_eq_nil_of_le (by omega)] at hres
              rw [hres] at h
              simp -dsimp [e3, e5, hlt']
              refine hK _ _ ?_
              simp -dsimp
              exact fin_ret rfl (leave_pure (by simp) h)
  · have h4' : ¬ (pc : Int).tmod 4 = 0 := by omega
    have hF : checkQ pc ws ops = false := by unfold checkQ; rw [decide_eq_false h4]; simp
    rw [hF] at h
    simp -dsimp [h4', undef]
    exact fin_ret rfl (leave_pure (by simp) h)
end Go.Lm

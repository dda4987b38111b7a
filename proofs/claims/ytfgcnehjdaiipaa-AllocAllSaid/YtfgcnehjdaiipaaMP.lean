/- Contracts of alloc.Assign and of the document's. -/
import Derived.Test.YtfgcnehjdaiipaaMO
import Derived.Test.YtfgcnehjdaiipaaMK
/- ref23.Assign. -/
set_option linter.unusedSimpArgs false
set_option linter.unusedVariables false
namespace Go.Lm
open Go.Proofs

/-- A row of spans in memory. -/
def SpsAt (m : Mem) (v : Value) (l : List Sp) : Prop :=
  (l = [] ∧ v = .slice none 0 0) ∨ ∃ k off cap ro c, v = .slice (some ⟨k, off, none⟩) l.length cap ∧ l.length ≤ cap ∧ m.get k = .cells ro 3 c ∧ off + cap * 3 ≤ c.size ∧
    ∀ (j : Nat) (s : Sp), l[j]? = some s → c.extract (off + j * 3) (off + j * 3 + 3) = (spV s).toArray
theorem sps_cell {c : Array Value} {l : List Sp} {off : Nat} (hc : ∀ (j : Nat) (s : Sp), l[j]? = some s → c.extract (off + j * 3) (off + j * 3 + 3) = (spV s).toArray) {j : Nat} (hj : j < l.length) :
    c[off + j * 3]? = some (.int .i64 (spAt l j).place) ∧ c[off + j * 3 + 1]? = some (.int .i64 (spAt l j).fr) ∧ c[off + j * 3 + 2]? = some (.int .i64 (spAt l j).to) := by
  have hs : l[j]? = some (spAt l j) := by unfold spAt; rw [List.getD_eq_getElem?_getD, List.getElem?_eq_getElem hj]; rfl
  have h1 := hc j _ hs
  have key : ∀ t, t < 3 → c[off + j * 3 + t]? = ((spV (spAt l j)).toArray)[t]? := by
    intro t ht
    rw [← h1, Array.getElem?_extract]
    have hsz : (c.extract (off + j * 3) (off + j * 3 + 3)).size = 3 := by rw [h1]; rfl
    rw [Array.size_extract] at hsz
    rw [if_pos (by omega)]
  exact ⟨key 0 (by omega), key 1 (by omega), key 2 (by omega)⟩
def rowI (l : List Int) : Ob := .cells false 1 (l.map (Value.int .i64)).toArray
/-- a list that is built by append: nil, or the last of the call's own objects -/
def LastI (top : Nat) (A : Ob) (l : List Int) (v : Value) (loc : List Ob) : Prop :=
  (l = [] ∧ v = .slice none 0 0 ∧ ∃ g, loc = A :: g) ∨ (l ≠ [] ∧ ∃ g, v = .slice (some ⟨top + (g.length + 1), 0, none⟩) l.length l.length ∧ loc = A :: (g ++ [rowI l]))
def arrN (H : List Nat) : Ob := .cells false 0 (H.map fun (x : Nat) => Value.int .i64 (x : Int)).toArray
def arrI (l : List Int) : Ob := .cells false 0 (l.map (Value.int .i64)).toArray

def regsQ (regs : Int) : Nat := (min (max regs 0) 15).toNat
theorem regsQ_le (regs : Int) : regsQ regs ≤ 15 := by unfold regsQ; omega
theorem regsQ_eq (regs : Int) : (if 15 < if regs < 0 then 0 else regs then 15 else if regs < 0 then 0 else regs) = (regsQ regs : Int) := by
  unfold regsQ
  (repeat' split) <;> omega
theorem yz15 : Array.replicate 15 (Value.int .i64 0) = ((List.replicate 15 (0 : Int)).map (Value.int .i64)).toArray := by simp only [List.map_replicate, List.toArray_replicate]
theorem rep_set (j : Nat) (hj : j < 15) : (List.replicate j (-1 : Int) ++ List.replicate (15 - j) 0).set j (-1) = List.replicate (j + 1) (-1) ++ List.replicate (15 - (j + 1)) 0 := by
  apply List.ext_getElem?
  intro i
  simp only [List.getElem?_set, List.getElem?_append, List.getElem?_replicate, List.length_replicate, List.length_append]
  (repeat' split) <;> simp_all <;> omega

theorem rsScan_ok {l : List Sp} {fr : Int} {who : List Int} : ∀ (f r w : Nat) (a : Int),
    (∀ r', rsScan l fr who f r w a = .inl r' → r' < r + f) ∧ (∀ w' a', rsScan l fr who f r w a = .inr (w', a') → (w' = w ∧ a' = a) ∨ (0 ≤ a' ∧ a'.toNat < r + f ∧ 0 ≤ who.getD a'.toNat 0 ∧ (w' : Int) = who.getD a'.toNat 0)) := by
  intro f
  induction f with
  | zero =>
    intro r w a
    refine ⟨fun r' h => by simp [rsScan] at h, fun w' a' h => ?_⟩
    simp only [rsScan, Sum.inr.injEq, Prod.mk.injEq] at h
    exact .inl ⟨h.1.symm, h.2.symm⟩
  | succ f ih =>
    intro r w a
    unfold rsScan
    dsimp only
    split
    · refine ⟨fun r' h => by simp only [Sum.inl.injEq] at h; omega, fun w' a' h => by cases h⟩
    · rename_i hd
      have hk : 0 ≤ who.getD r 0 := by unfold deadR at hd; omega
      split
      · obtain ⟨h1, h2⟩ := ih (r + 1) (who.getD r 0).toNat (r : Int)
        refine ⟨fun r' h => by have := h1 r' h; omega, fun w' a' h => ?_⟩
        rcases h2 w' a' h with ⟨e1, e2⟩ | ⟨q1, q2, q3, q4⟩
        · subst e1 e2
          exact .inr ⟨by omega, by omega, by rw [Int.toNat_natCast]; exact hk, by rw [Int.toNat_natCast]; omega⟩
        · exact .inr ⟨q1, by omega, q3, q4⟩
      · obtain ⟨h1, h2⟩ := ih (r + 1) w a
        refine ⟨fun r' h => by have := h1 r' h; omega, fun w' a' h => ?_⟩
        rcases h2 w' a' h with e | ⟨q1, q2, q3, q4⟩
        · exact .inl e
        · exact .inr ⟨q1, by omega, q3, q4⟩

structure RsOk (who out : List Int) (i : Nat) : Prop where
  h1 : who.length = 15
  h2 : out.length = i
  ent : ∀ r, r < 15 → who.getD r 0 = -1 ∨ ∃ k : Nat, k < i ∧ who.getD r 0 = (k : Int)
theorem rsRun_ok (l : List Sp) {n : Nat} (hn : n ≤ 15) : ∀ i, RsOk (rsRun l n i).1 (rsRun l n i).2 i := by
  intro i
  induction i with
  | zero => exact ⟨by simp [rsRun], rfl, fun r hr => .inl (by unfold rsRun; rw [List.getD_eq_getElem?_getD, List.getElem?_replicate, if_pos hr]; rfl)⟩
  | succ i ih =>
    obtain ⟨h1, h2, h3⟩ := ih
    unfold rsRun
    have up : ∀ r, r < 15 → (rsRun l n i).1.getD r 0 = -1 ∨ ∃ k : Nat, k < i + 1 ∧ (rsRun l n i).1.getD r 0 = (k : Int) := fun r hr => by
      rcases h3 r hr with h | ⟨k, hk, h⟩
      · exact .inl h
      · exact .inr ⟨k, by omega, h⟩
    have ups : ∀ f, f < 15 → ∀ r, r < 15 → ((rsRun l n i).1.set f (i : Int)).getD r 0 = -1 ∨ ∃ k : Nat, k < i + 1 ∧ ((rsRun l n i).1.set f (i : Int)).getD r 0 = (k : Int) := fun f hf r hr => by
      rw [getD_setZ]
      split
      · exact .inr ⟨i, by omega, rfl⟩
      · exact up r hr
    unfold rsStep
    obtain ⟨g1, g2⟩ := rsScan_ok (l := l) (fr := (spAt l i).fr) (who := (rsRun l n i).1) n 0 i (-1)
    split
    · rename_i r hr
      have := g1 r hr
      exact ⟨by simp [h1], by simp [h2], ups r (by omega)⟩
    · rename_i w a hr
      split
      · exact ⟨h1, by simp [h2], up⟩
      · rename_i ha
        rcases g2 w a hr with ⟨_, e⟩ | ⟨q1, q2, _⟩
        · omega
        · exact ⟨by simp [h1], by simp [h2], ups _ (by omega)⟩

/-- the loop over the registers -/
def raI (m : Mem) (l : List Sp) (who : List Int) (n i : Nat) (V0 : Value) (g : List Ob) (R : Int → List Value) (f : Nat) (env' : Env) (m' : Mem) : Prop :=
  elook env' 9 = some (.int .i64 i) ∧ elook env' 0 = some V0 ∧ elook env' 5 = some (.int .i64 n) ∧ elook env' 7 = some (.pointer (some ⟨m.top, 0, none⟩)) ∧ elook env' 6 = some (.slice (some ⟨m.top + (g.length + 1), 0, none⟩) (i + 1) (i + 1)) ∧
              ((f = 0 ∧ ∃ r0 : Nat, r0 < n ∧ elook env' 12 = some (.int .i64 ((r0 + 1 : Nat) : Int)) ∧ rsScan l (spAt l i).fr who n 0 i (-1) = .inl r0 ∧ m' = { base := m.get, n := m.top, loc := arrI (who.set r0 i) :: (g ++ [.cells false 1 (R r0).toArray]) }) ∨
               (∃ (r w : Nat) (a : Int), f = n - r + 1 ∧ r ≤ n ∧ w < l.length ∧ rsScan l (spAt l i).fr who n 0 i (-1) = rsScan l (spAt l i).fr who (n - r) r w a ∧ elook env' 12 = some (.int .i64 r) ∧ elook env' 10 = some (.int .i64 w) ∧ elook env' 11 = some (.int .i64 a) ∧ m' = { base := m.get, n := m.top, loc := arrI who :: (g ++ [.cells false 1 (R (-1)).toArray]) }))

set_option maxRecDepth 100000 in
set_option maxHeartbeats 8000000 in
theorem rassign_tc (l : List Sp) (v : Value) (regs : Int) (m : Mem) (hl : SpsAt m v l) (hlen : l.length ≤ 64) (kk : Nat) (hf : m.get kk = .free) (Q : Value → Mem → Prop) (h : Q (lstV kk (assignQ l (regsQ regs))) (lstM m kk (assignQ l (regsQ regs)))) :
    TC Try.prog 49 [v, .int .i64 regs] m Q := by
  refine TC_fn mixed Try.func49 rfl Try.ntmps49 rfl (by decide) (by simp) ?_
  have hre := regsQ_eq regs
  obtain ⟨n, hn⟩ : ∃ n, regsQ regs = n := ⟨_, rfl⟩
  have hn15 : n ≤ 15 := by rw [← hn]; exact regsQ_le regs
  rw [hn] at h hre
  refine wpc_st fun K hK => ?_
  simp -dsimp
  refine hK _ _ ?_
  clear hK K
  refine wpc_st fun K hK => ?_
  simp -dsimp [hre]
  refine hK _ _ ?_
  clear hK K
  refine wpc_st fun K hK => ?_
  simp -dsimp
  refine hK _ _ ?_
  clear hK K
  refine wpc_st fun K hK => ?_
  simp -dsimp
  refine hK _ _ ?_
  clear hK K
  refine wpc_mid (fun env m' => elook env 0 = some v ∧ elook env 5 = some (.int .i64 n) ∧ elook env 6 = some (.slice none 0 0) ∧ elook env 7 = some (.pointer (some ⟨m.top, 0, none⟩)) ∧ m' = { base := m.get, n := m.top, loc := [arrI (List.replicate 15 (-1))] }) ?_ ?_
  · refine wpc_st fun K hK => ?_
    simp -dsimp
    refine hK _ _ ?_
    clear hK K
    have hz := yz15
    simp -dsimp
    refine loop_by (fun f env m' => ∃ j, f = 15 - j ∧ j ≤ 15 ∧ elook env 8 = some (.int .i64 j) ∧ elook env 0 = some v ∧ elook env 5 = some (.int .i64 n) ∧ elook env 6 = some (.slice none 0 0) ∧ elook env 7 = some (.pointer (some ⟨m.top, 0, none⟩)) ∧
      m' = { base := m.get, n := m.top, loc := [arrI (List.replicate j (-1) ++ List.replicate (15 - j) 0)] }) 15 ⟨0, rfl, by omega, by simp -dsimp [arrI]⟩ ?_
    rintro f env m' ⟨j, rfl, hj, e8, e0, e5, e6, e7, rfl⟩
    by_cases hlt : j < 15
    · have hlt' : (j : Int) < 15 := by omega
      have hlt'' : j ≤ 14 := by omega
      have hrs := rep_set j hlt
      have hlen' : (List.replicate j (-1 : Int) ++ List.replicate (15 - j) 0).length = 15 := by simp; omega
      have hkw : IntKind.i64.wrap ((j : Int) + 1) = ((j + 1 : Nat) : Int) := wI64 (by omega) (by omega)
      generalize List.replicate j (-1 : Int) ++ List.replicate (15 - j) 0 = X at *
      simp -dsimp [e8, e0, e5, e6, e7, hlt', hlt'', arrI, hlen', hkw]
      refine ⟨15 - (j + 1), by omega, j + 1, rfl, by omega, by omega, ?_⟩
      rw [← List.map_set, hrs]
      simp
    · have : j = 15 := by omega
      subst this
      simp -dsimp [e8, e0, e5, e6, e7]
  rintro env m' ⟨e0, e5, e6, e7, rfl⟩
  have hv : ∃ a cap, v = .slice a l.length cap := by
    rcases hl with ⟨rfl, rfl⟩ | ⟨k, off, cap, ro, c, rfl, _⟩
    · exact ⟨_, _, rfl⟩
    · exact ⟨_, _, rfl⟩
  obtain ⟨av, cv, rfl⟩ := hv
  refine wpc_mid (fun env m' => ∃ v' loc, elook env 6 = some v' ∧ LastI m.top (arrI (rsRun l n l.length).1) (assignQ l n) v' loc ∧ m' = { base := m.get, n := m.top, loc := loc }) ?_ ?_
  · refine wpc_st fun K hK => ?_
    simp -dsimp
    refine hK _ _ ?_
    clear hK K
    simp -dsimp
    refine loop_by (fun f env m' => ∃ i v' loc, f = l.length - i ∧ i ≤ l.length ∧ elook env 9 = some (.int .i64 i) ∧ elook env 0 = some (.slice av l.length cv) ∧ elook env 5 = some (.int .i64 n) ∧ elook env 6 = some v' ∧ elook env 7 = some (.pointer (some ⟨m.top, 0, none⟩)) ∧
      LastI m.top (arrI (rsRun l n i).1) (rsRun l n i).2 v' loc ∧ m' = { base := m.get, n := m.top, loc := loc }) l.length
      ⟨0, .slice none 0 0, [arrI (List.replicate 15 (-1))], rfl, by omega, by simp -dsimp [e0, e5, e6, e7]; exact .inl ⟨rfl, rfl, [], rfl⟩⟩ ?_
    rintro f env m' ⟨i, v', loc, rfl, hi, e9, e0, e5, e6, e7, hlast, rfl⟩
    by_cases hlt : i < l.length
    · have hlt' : (i : Int) < (l.length : Int) := by omega
      have hrec : rsRun l n (i + 1) = rsStep l n (rsRun l n i) i := rfl
      have hok := rsRun_ok l hn15 i
      generalize rsRun l n i = st at *
      obtain ⟨who, out⟩ := st
      simp only at hok hlast
      rcases hl with ⟨rfl, _⟩ | ⟨k, off, cap, ro, c, e, hcap, hm, hsz, hc⟩
      · simp at hlt
      simp only [Value.slice.injEq, true_and] at e
      obtain ⟨rfl, rfl⟩ := e
      have htop := lt_cells hm
      have hgt : ∀ os, ({ base := m.get, n := m.top, loc := os } : Mem).get k = .cells ro 3 c := fun os => by rw [get_base _ _ _ htop, hm]
      refine wpc_sq fun K hK => ?_
      simp -dsimp [e9, e0, hlt']
      refine hK _ _ ?_
      clear hK K
      refine wpc_mid (fun env' m' => elook env' 9 = some (.int .i64 i) ∧ elook env' 0 = some (.slice (some ⟨k, off, none⟩) l.length cv) ∧ elook env' 5 = some (.int .i64 n) ∧ elook env' 7 = some (.pointer (some ⟨m.top, 0, none⟩)) ∧ ∃ v' loc, elook env' 6 = some v' ∧ LastI m.top (arrI (rsRun l n (i + 1)).1) (rsRun l n (i + 1)).2 v' loc ∧ m' = { base := m.get, n := m.top, loc := loc }) ?_ ?_
      · rw [wpc_block]
        refine wpc_mid (fun env' m' => elook env' 9 = some (.int .i64 i) ∧ elook env' 0 = some (.slice (some ⟨k, off, none⟩) l.length cv) ∧ elook env' 5 = some (.int .i64 n) ∧ elook env' 7 = some (.pointer (some ⟨m.top, 0, none⟩)) ∧ ∃ g, elook env' 6 = some (.slice (some ⟨m.top + (g.length + 1), 0, none⟩) (i + 1) (i + 1)) ∧ m' = { base := m.get, n := m.top, loc := arrI who :: (g ++ [rowI (out ++ [-1])]) }) ?_ ?_
        · rcases hlast with ⟨rfl, rfl, g, rfl⟩ | ⟨hne, g, rfl, rfl⟩
          · have hi0 : i = 0 := hok.h2.symm
            subst hi0
            simp -dsimp [e6, e9, e0, e5, e7, y1]
            exact ⟨g ++ [.cells false 1 #[.int .i64 (-1)]], by simp, by simp [rowI]⟩
          · have hol := hok.h2
            have hb : ¬ 17592186044416 < (out.length + 1) * 8 := by omega
            have hnl : ¬ out.length + 1 ≤ out.length := by omega
            have htk : List.take out.length (out.map (Value.int .i64)) = out.map (Value.int .i64) := List.take_of_length_le (by simp)
            simp -dsimp [e6, e9, e0, e5, e7, y1, rowI, hne, hb, hnl, htk, List.getElem?_append, List.set_append]
            exact ⟨g ++ [.dead, .cells false 1 #[.int .i64 (-1)]], ⟨by simp, hol⟩, by simp⟩
        · clear hlast e9 e0 e5 e7 e6
          rintro env1 m1 ⟨e9, e0, e5, e7, g, e6, rfl⟩
          obtain ⟨R, hR⟩ : ∃ R : Int → List Value, R = fun x => (out ++ [x]).map (.int .i64) := ⟨_, rfl⟩
          have hrow : ∀ x, rowI (out ++ [x]) = .cells false 1 (R x).toArray := fun x => by rw [hR]; rfl
          have hRl : ∀ x, (R x).length = i + 1 := fun x => by rw [hR]; simp [hok.h2]
          have hRg : ∀ x, (R x)[i]? = some (.int .i64 x) := fun x => by rw [hR]; simp [← hok.h2]
          have hRg' : ∀ x (hx : i < (R x).length), (R x)[i]'hx = .int .i64 x := fun x hx => by have := hRg x; rw [List.getElem?_eq_getElem hx] at this; exact Option.some.inj this
          have hRs : ∀ x y, (R x).set i (.int .i64 y) = R y := fun x y => by rw [hR]; simp [← hok.h2]
          have hii : (i : Int) < (i : Int) + 1 := by omega
          have hif : ∀ y, (if i = 0 then #[Value.int .i64 y] else (R y).toArray) = (R y).toArray := fun y => by
            split
            · rename_i hi0
              have h1 := hRl y
              have h2 := hRg y
              rw [hi0] at h1 h2
              generalize R y = L at h1 h2
              match L, h1 with
              | [z], _ => simp at h2; rw [h2]
            · rfl
          rw [hrow]
          refine wpc_st fun K hK => ?_
          simp -dsimp [e9]
          refine hK _ _ ?_
          clear hK K
          have hww : who.length = 15 := hok.h1
          refine wpc_mid (fun env' m' => elook env' 9 = some (.int .i64 i) ∧ elook env' 0 = some (.slice (some ⟨k, off, none⟩) l.length cv) ∧ elook env' 5 = some (.int .i64 n) ∧ elook env' 7 = some (.pointer (some ⟨m.top, 0, none⟩)) ∧ elook env' 6 = some (.slice (some ⟨m.top + (g.length + 1), 0, none⟩) (i + 1) (i + 1)) ∧
            ((∃ r0, rsScan l (spAt l i).fr who n 0 i (-1) = .inl r0 ∧ m' = { base := m.get, n := m.top, loc := arrI (who.set r0 i) :: (g ++ [.cells false 1 (R r0).toArray]) }) ∨
             (∃ (w : Nat) (a : Int), rsScan l (spAt l i).fr who n 0 i (-1) = .inr (w, a) ∧ elook env' 10 = some (.int .i64 w) ∧ elook env' 11 = some (.int .i64 a) ∧ m' = { base := m.get, n := m.top, loc := arrI who :: (g ++ [.cells false 1 (R (-1)).toArray]) }))) ?_ ?_
          · refine wpc_st fun K hK => ?_
            simp -dsimp
            refine hK _ _ ?_
            clear hK K
            simp -dsimp
            refine loop_by (raI m l who n i (.slice (some ⟨k, off, none⟩) l.length cv) g R) (n + 1) ?_ ?_
            · refine ⟨by simp -dsimp [e9], by simp -dsimp [e0], by simp -dsimp [e5], by simp -dsimp [e7], by simp -dsimp [e6], .inr ⟨0, i, -1, by omega, by omega, hlt, by rw [Nat.sub_zero], by simp -dsimp, by simp -dsimp, by simp -dsimp, rfl⟩⟩
            rintro f env' m' ⟨f9, f0, f5, f7, f6, ⟨rfl, r0, hr0, f12, hsc, rfl⟩ | ⟨r, w, a, rfl, hr, hw, hsc, f12, f10, f11, rfl⟩⟩
            · by_cases hlt2 : r0 + 1 < n
              · have hlt2' : (r0 : Int) + 1 < n := by omega
                have hn0 : ¬ (r0 : Int) < 0 := by omega
                simp -dsimp [f12, f5, f9, f6, f0, f7, hlt2', hRg, hRg', hRl, hii, hn0]
                exact .inl ⟨r0, hsc, rfl, rfl⟩
              · have hlt2' : ¬ (r0 : Int) + 1 < n := by omega
                simp -dsimp [f12, f5, f9, f6, f0, f7, hlt2', undef]
                exact .inl ⟨r0, hsc, rfl, rfl⟩
            · by_cases hlt2 : r < n
              · have hlt2' : (r : Int) < n := by omega
                obtain ⟨f, hf⟩ : ∃ f, n - r = f + 1 := ⟨n - r - 1, by omega⟩
                rw [hf] at hsc
                have hunf : rsScan l (spAt l i).fr who (f + 1) r w a = if deadR l (spAt l i).fr (who.getD r 0) then .inl r else if spMore (spAt l (who.getD r 0).toNat) (spAt l w) then rsScan l (spAt l i).fr who f (r + 1) (who.getD r 0).toNat r else rsScan l (spAt l i).fr who f (r + 1) w a := rfl
                obtain ⟨x, hx⟩ : ∃ x, who[r]? = some x := ⟨who[r], List.getElem?_eq_getElem (by omega)⟩
                have hxD : who.getD r 0 = x := by rw [List.getD_eq_getElem?_getD, hx]; rfl
                have hr15 : r < 15 := by omega
                have hr15' : (r : Int) < 15 := by omega
                have hr14 : r ≤ 14 := by omega
                have hxA : (who.map (Value.int .i64))[r]? = some (.int .i64 x) := by rw [List.getElem?_map, hx]; rfl
                have hxg : ∀ h, who[r]'h = x := fun h => by rw [List.getElem?_eq_getElem h] at hx; exact Option.some.inj hx
                have hent := hok.ent r hr15
                rw [hxD] at hunf hent
                have hkw : IntKind.i64.wrap ((r : Int) + 1) = ((r + 1 : Nat) : Int) := wI64 (by omega) (by omega)
                have hcond : ∀ K Q, (∀ env'' m', wpc Try.prog 129 K env'' m' Q → True) := fun _ _ _ _ _ => trivial
                refine wpc_sq fun K hK => ?_
                simp -dsimp [f12, f5, f9, f6, f0, f7, hlt2', hRg, hRg', hRl, hii]
                refine hK _ _ ?_
                clear hK K hcond
                refine wpc_sq fun K hK => ?_
                rw [wpc_block]
                refine wpc_st fun K2 hK2 => ?_
                simp -dsimp [f12, f7, hr15, hr15', hr14, arrI, hww, hxg]
                refine hK2 _ _ ?_
                clear hK2 K2
                have hfound : deadR l (spAt l i).fr x → rsScan l (spAt l i).fr who n 0 i (-1) = .inl r := fun hd => by rw [hsc, hunf, if_pos hd]
                have hWs : (who.map (Value.int .i64)).set r (.int .i64 i) = (who.set r (i : Int)).map (Value.int .i64) := by rw [List.map_set]
                have hRs' := hRs (-1) r
                refine wpc_mid (fun env'' m'' => elook env'' 9 = some (.int .i64 i) ∧ elook env'' 0 = some (.slice (some ⟨k, off, none⟩) l.length cv) ∧ elook env'' 5 = some (.int .i64 n) ∧ elook env'' 7 = some (.pointer (some ⟨m.top, 0, none⟩)) ∧ elook env'' 6 = some (.slice (some ⟨m.top + (g.length + 1), 0, none⟩) (i + 1) (i + 1)) ∧
                  elook env'' 12 = some (.int .i64 r) ∧ elook env'' 10 = some (.int .i64 w) ∧ elook env'' 11 = some (.int .i64 a) ∧ elook env'' 13 = some (.int .i64 x) ∧ m'' = { base := m.get, n := m.top, loc := arrI who :: (g ++ [.cells false 1 (R (-1)).toArray]) } ∧
                  ((elook env'' 62 = some (.bool true) ∧ rsScan l (spAt l i).fr who n 0 i (-1) = .inl r) ∨ (elook env'' 62 = some (.bool false) ∧ ∃ kx : Nat, kx < i ∧ x = (kx : Int) ∧ ¬ (spAt l kx).to < (spAt l i).fr))) ?_ ?_
                · rcases hent with rfl | ⟨kx, hkx, rfl⟩
                  · have hsc' := hfound (.inl (by omega))
                    simp -dsimp
                    refine draw_go 13 [0, 1, 3, 7, 7, 31, 63, 127, 7, 7, 775, 1799, 3847, 8191, 16383] (by kernel_rfl) (by kernel_rfl) ?_
                    simp -dsimp -implicitDefEqProofs [undef, f0, f9, f5, f7, f6, f12, f10, f11]
                    exact ⟨rfl, hsc'⟩
                  · have hkl : kx < l.length := by omega
                    have hkl' : (kx : Int) < (l.length : Int) := by omega
                    have hkn : ¬ (kx : Int) < 0 := by omega
                    obtain ⟨ck0, ck1, ck2⟩ := sps_cell hc hkl
                    obtain ⟨ci0, ci1, ci2⟩ := sps_cell hc hlt
                    by_cases hdd : (spAt l kx).to < (spAt l i).fr
                    · have hsc' := hfound (.inr (by rw [Int.toNat_natCast]; exact hdd))
                      simp -dsimp
                      refine draw_go 13 [0, 1, 3, 7, 7, 31, 63, 127, 7, 7, 775, 1799, 3847, 8191, 16383] (by kernel_rfl) (by kernel_rfl) ?_
                      simp -dsimp -implicitDefEqProofs [undef, hkn, hkl', hlt', f0, f9, f5, f7, f6, f12, f10, f11, hgt, ck2, ci1, hdd]
                      exact ⟨rfl, hsc'⟩
                    · simp -dsimp
                      refine draw_go 13 [0, 1, 3, 7, 7, 31, 63, 127, 7, 7, 775, 1799, 3847, 8191, 16383] (by kernel_rfl) (by kernel_rfl) ?_
                      simp -dsimp -implicitDefEqProofs [undef, hkn, hkl', hlt', f0, f9, f5, f7, f6, f12, f10, f11, hgt, ck2, ci1, hdd]
                      exact ⟨rfl, kx, hkx, rfl, by omega⟩
                · clear f9 f0 f5 f7 f6 f12 f10 f11
                  rintro env2 m2 ⟨f9, f0, f5, f7, f6, f12, f10, f11, f13, rfl, ⟨f62, hsc'⟩ | ⟨f62, kx, hkx, rfl, hdd⟩⟩
                  · simp -dsimp [f62, f0, f9, f5, f7, f6, f12, f10, f11, arrI, hww, hRl, hii, hr15, hr15', hr14, hRs', hif]
                    refine hK _ _ ?_
                    simp -dsimp [f12, hkw]
                    refine ⟨0, by omega, by simp -dsimp [f9], by simp -dsimp [f0], by simp -dsimp [f5], by simp -dsimp [f7], by simp -dsimp [f6], .inl ⟨rfl, r, hlt2, by simp -dsimp, hsc', by simp -dsimp [arrI]⟩⟩
                  · have hkl : kx < l.length := by omega
                    have hkl' : (kx : Int) < (l.length : Int) := by omega
                    obtain ⟨ck0, ck1, ck2⟩ := sps_cell hc hkl
                    obtain ⟨cw0, cw1, cw2⟩ := sps_cell hc hw
                    have hw' : (w : Int) < (l.length : Int) := by omega
                    rw [if_neg (fun hd => by
                      rcases hd with hd | hd
                      · omega
                      · rw [Int.toNat_natCast] at hd; exact hdd hd), Int.toNat_natCast] at hunf
                    have hmr : spMore (spAt l kx) (spAt l w) = (decide ((spAt l w).to < (spAt l kx).to) || (decide ((spAt l w).to = (spAt l kx).to) && decide ((spAt l w).place < (spAt l kx).place))) := rfl
                    rw [hmr] at hunf
                    have hfe : n - (r + 1) = f := by rw [Nat.sub_add_eq, hf]; rfl
                    by_cases m1 : (spAt l w).to < (spAt l kx).to
                    · rw [decide_eq_true m1] at hunf
                      simp only [Bool.true_or, if_true] at hunf
                      simp -dsimp [f62]
                      refine draw_go 34 [0, 0, 3, 7, 15, 0, 0, 96, 224, 480, 1023, 2047, 4095, 4095, 16383, 32767, 65535, 4095, 4095, 397311, 921599, 1970175, 4194303, 8388607, 16777215, 16777215, 67108863, 134217727, 268435455, 16777215, 16777215, 1627389951, 3774873599, 8069840895, 17179869183, 34359738367, 68719476735] (by kernel_rfl) (by kernel_rfl) ?_
                      simp -dsimp -implicitDefEqProofs [undef, f0, f9, f5, f7, f6, f12, f10, f11, f13, hkl', hw', hgt, ck2, cw2, ck0, cw0, m1]
                      refine hK _ _ ?_
                      simp -dsimp [f12, hkw]
                      refine ⟨n - (r + 1) + 1, by omega, by simp -dsimp [f9], by simp -dsimp [f0], by simp -dsimp [f5], by simp -dsimp [f7], by simp -dsimp [f6], .inr ⟨r + 1, kx, r, rfl, by omega, hkl, by rw [hsc, hunf, hfe], by simp -dsimp, by simp -dsimp, by simp -dsimp, rfl⟩⟩
                    · rw [decide_eq_false m1] at hunf
                      by_cases m2 : (spAt l w).to = (spAt l kx).to
                      · rw [decide_eq_true m2] at hunf
                        have hbe : ((spAt l kx).to == (spAt l w).to) = true := by rw [beq_iff_eq]; exact m2.symm
                        by_cases m3 : (spAt l w).place < (spAt l kx).place
                        · rw [decide_eq_true m3] at hunf
                          simp only [Bool.false_or, Bool.true_and, if_true] at hunf
                          simp -dsimp [f62]
                          refine draw_go 34 [0, 0, 3, 7, 15, 0, 0, 96, 224, 480, 1023, 2047, 4095, 4095, 16383, 32767, 65535, 4095, 4095, 397311, 921599, 1970175, 4194303, 8388607, 16777215, 16777215, 67108863, 134217727, 268435455, 16777215, 16777215, 1627389951, 3774873599, 8069840895, 17179869183, 34359738367, 68719476735] (by kernel_rfl) (by kernel_rfl) ?_
                          simp -dsimp -implicitDefEqProofs [undef, f0, f9, f5, f7, f6, f12, f10, f11, f13, hkl', hw', hgt, ck2, cw2, ck0, cw0, m1, hbe, m3]
                          refine hK _ _ ?_
                          simp -dsimp [f12, hkw]
                          refine ⟨n - (r + 1) + 1, by omega, by simp -dsimp [f9], by simp -dsimp [f0], by simp -dsimp [f5], by simp -dsimp [f7], by simp -dsimp [f6], .inr ⟨r + 1, kx, r, rfl, by omega, hkl, by rw [hsc, hunf, hfe], by simp -dsimp, by simp -dsimp, by simp -dsimp, rfl⟩⟩
                        · rw [decide_eq_false m3] at hunf
                          simp only [Bool.false_or, Bool.true_and, Bool.false_eq_true, if_false] at hunf
                          simp -dsimp [f62]
                          refine draw_go 34 [0, 0, 3, 7, 15, 0, 0, 96, 224, 480, 1023, 2047, 4095, 4095, 16383, 32767, 65535, 4095, 4095, 397311, 921599, 1970175, 4194303, 8388607, 16777215, 16777215, 67108863, 134217727, 268435455, 16777215, 16777215, 1627389951, 3774873599, 8069840895, 17179869183, 34359738367, 68719476735] (by kernel_rfl) (by kernel_rfl) ?_
                          simp -dsimp -implicitDefEqProofs [undef, f0, f9, f5, f7, f6, f12, f10, f11, f13, hkl', hw', hgt, ck2, cw2, ck0, cw0, m1, hbe, m3]
                          refine hK _ _ ?_
                          simp -dsimp [f12, hkw]
                          refine ⟨n - (r + 1) + 1, by omega, by simp -dsimp [f9], by simp -dsimp [f0], by simp -dsimp [f5], by simp -dsimp [f7], by simp -dsimp [f6], .inr ⟨r + 1, w, a, rfl, by omega, hw, by rw [hsc, hunf, hfe], by simp -dsimp, by simp -dsimp [f10], by simp -dsimp [f11], rfl⟩⟩
                      · rw [decide_eq_false m2] at hunf
                        have hbe : ((spAt l kx).to == (spAt l w).to) = false := by rw [beq_eq_false_iff_ne]; exact fun e => m2 e.symm
                        simp only [Bool.false_or, Bool.false_and, Bool.false_eq_true, if_false] at hunf
                        simp -dsimp [f62]
                        refine draw_go 34 [0, 0, 3, 7, 15, 0, 0, 96, 224, 480, 1023, 2047, 4095, 4095, 16383, 32767, 65535, 4095, 4095, 397311, 921599, 1970175, 4194303, 8388607, 16777215, 16777215, 67108863, 134217727, 268435455, 16777215, 16777215, 1627389951, 3774873599, 8069840895, 17179869183, 34359738367, 68719476735] (by kernel_rfl) (by kernel_rfl) ?_
                        simp -dsimp -implicitDefEqProofs [undef, f0, f9, f5, f7, f6, f12, f10, f11, f13, hkl', hw', hgt, ck2, cw2, ck0, cw0, m1, hbe]
                        refine hK _ _ ?_
                        simp -dsimp [f12, hkw]
                        refine ⟨n - (r + 1) + 1, by omega, by simp -dsimp [f9], by simp -dsimp [f0], by simp -dsimp [f5], by simp -dsimp [f7], by simp -dsimp [f6], .inr ⟨r + 1, w, a, rfl, by omega, hw, by rw [hsc, hunf, hfe], by simp -dsimp, by simp -dsimp [f10], by simp -dsimp [f11], rfl⟩⟩
              · have hlt2' : ¬ (r : Int) < n := by omega
                have hnr : n - r = 0 := by omega
                rw [hnr] at hsc
                simp -dsimp [f12, f5, f9, f6, f0, f7, hlt2', undef]
                exact .inr ⟨w, a, hsc, f10, f11⟩
          · clear e9 e0 e5 e7 e6
            rintro env2 m2 ⟨e9, e0, e5, e7, e6, ⟨r0, hsc, rfl⟩ | ⟨w, a, hsc, e10, e11, rfl⟩⟩
            · have hst : rsRun l n (i + 1) = (who.set r0 i, out ++ [(r0 : Int)]) := by rw [hrec]; unfold rsStep; simp only [hsc]
              have hr0 : ¬ (r0 : Int) < 0 := by omega
              rw [hst]
              simp -dsimp [e9, e0, e5, e7, e6, hRg, hRg', hRl, hii, hr0, undef]
              exact .inr ⟨by simp, g, by simp [hok.h2], by rw [hrow]⟩
            · have hsok := (rsScan_ok (l := l) (fr := (spAt l i).fr) (who := who) n 0 i (-1)).2 w a hsc
              by_cases ha : a < 0
              · have hst : rsRun l n (i + 1) = (who, out ++ [-1]) := by rw [hrec]; unfold rsStep; simp only [hsc]; rw [if_pos ha]
                have ha' : ¬ 0 ≤ a := by omega
                rw [hst]
                simp -dsimp [e9, e0, e5, e7, e6, e11, hRg, hRg', hRl, hii, ha']
                exact .inr ⟨by simp, g, by simp [hok.h2], by rw [hrow]⟩
              · have ha' : 0 ≤ a := by omega
                obtain ⟨an, rfl⟩ : ∃ an : Nat, a = an := ⟨a.toNat, by omega⟩
                have hst : rsRun l n (i + 1) = (who.set an i, (out.set w (-1)) ++ [(an : Int)]) := by rw [hrec]; unfold rsStep; simp only [hsc]; rw [if_neg ha, Int.toNat_natCast]
                rcases hsok with ⟨_, q⟩ | ⟨_, q2, q3, q4⟩
                · omega
                rw [Int.toNat_natCast] at q2 q3 q4
                have hwi : w < i := by
                  rcases hok.ent an (by omega) with q | ⟨kx, hkx, q⟩
                  · omega
                  · omega
                have hwi' : (w : Int) < (i : Int) + 1 := by omega
                have hwi2 : w < i + 1 := by omega
                have han : an < 15 := by omega
                have han' : (an : Int) < 15 := by omega
                have han2 : an ≤ 14 := by omega
                have hi0 : ¬ i = 0 := by omega
                have hwl2 : w ≤ i := by omega
                have hRw : ((R (-1)).set w (.int .i64 (-1))).set i (.int .i64 an) = (out.set w (-1) ++ [(an : Int)]).map (Value.int .i64) := by
                  rw [hR]
                  simp only [List.map_append, List.map_set]
                  rw [List.set_append_left _ _ (by simp [hok.h2]; exact hwi), List.set_append_right _ _ (by simp [hok.h2])]
                  simp [hok.h2]
                rw [hst]
                simp -dsimp [e9, e0, e5, e7, e6, e11, e10, hRg, hRg', hRl, hii, hwi', hwi2, han, han', han2, hi0, hwl2, arrI, hww, hRw]
                exact .inr ⟨by simp, g, by simp [hok.h2], by simp [rowI]⟩
      · rintro env2 m2 ⟨e9, e0, e5, e7, v2, loc2, e6, hl2, rfl⟩
        have hkw : IntKind.i64.wrap ((i : Int) + 1) = ((i + 1 : Nat) : Int) := wI64 (by omega) (by omega)
        simp -dsimp [e9, hkw]
        exact ⟨l.length - (i + 1), by omega, i + 1, rfl, by omega, by omega, e0, e5, v2, e6, e7, hl2⟩
    · have hi2 : i = l.length := by omega
      subst hi2
      have hlt' : ¬ (l.length : Int) < (l.length : Int) := by omega
      simp -dsimp [e9, e0, hlt', e6]
      exact hlast
  · rintro env2 m2 ⟨v2, loc2, e6, hl2, rfl⟩
    simp -dsimp [e6]
    generalize assignQ l n = X at *
    unfold lstV lstM at h
    rcases hl2 with ⟨rfl, rfl, g, rfl⟩ | ⟨hne, g, rfl, rfl⟩
    · exact fin_ret rfl (leave_pure (by simp) (by simpa using h))
    · rw [if_neg hne, if_neg hne] at h
      exact fin_ret rfl (leave_row_at (i := g.length + 1) (by simp [rowI, i64A]) (i64A_gnd X) hf h)
end Go.Lm
/- slices.IndexFunc at alloc.Assign's closure. -/
set_option linter.unusedSimpArgs false
set_option linter.unusedVariables false
namespace Go.Lm
open Go.Proofs

def spO (s : Sp) : Ob := .cells false 0 (spV s).toArray

set_option maxRecDepth 100000 in
set_option maxHeartbeats 8000000 in
theorem aseq_tc (l : List Sp) (v : Value) (worst : Sp) (kl kw : Nat) (h : Nat) (m : Mem) (hl : SpsAt m v l) (h1 : 1 ≤ h) (h2 : h ≤ l.length) (hlen : l.length ≤ 64) (hk : m.get kl = .cells false 0 #[v]) (hw : m.get kw = spO worst) (Q) (hq : Q (.bool (decide (spAt l (h - 1) = worst))) m) :
    TC Try.prog 106 [.int .i64 (h : Int), .pointer (some ⟨kl, 0, none⟩), .pointer (some ⟨kw, 0, none⟩)] m Q := by
  refine TC_fn mixed Try.func106 rfl Try.ntmps106 rfl (by decide) (by simp) ?_
  rcases hl with ⟨rfl, _⟩ | ⟨k, off, cap, ro, c, rfl, hcap, hm, hsz, hc⟩
  · simp at h2; omega
  have t1 := lt_cells hm
  have t2 := lt_cells hk
  have t3 := lt_cells (c := (spV worst).toArray) hw
  have g1 : ∀ os, ({ base := m.get, n := m.top, loc := os } : Mem).get k = .cells ro 3 c := fun os => by rw [get_base _ _ _ t1, hm]
  have g2 : ∀ os, ({ base := m.get, n := m.top, loc := os } : Mem).get kl = .cells false 0 #[.slice (some ⟨k, off, none⟩) l.length cap] := fun os => by rw [get_base _ _ _ t2, hk]
  have g3 : ∀ os, ({ base := m.get, n := m.top, loc := os } : Mem).get kw = spO worst := fun os => by rw [get_base _ _ _ t3, hw]
  have hx : l[h - 1]? = some (spAt l (h - 1)) := by unfold spAt; rw [List.getD_eq_getElem?_getD, List.getElem?_eq_getElem (by omega)]; rfl
  have hce := hc (h - 1) _ hx
  have hsz2 : off + (h - 1) * 3 + 3 ≤ c.size := by
    have : (h - 1 + 1) * 3 ≤ cap * 3 := Nat.mul_le_mul_right 3 (by omega)
    omega
  have hkw : IntKind.i64.wrap ((h : Int) - 1) = ((h - 1 : Nat) : Int) := by rw [wI64 (by omega) (by omega)]; omega
  have hlt' : ((h - 1 : Nat) : Int) < (l.length : Int) := by omega
  generalize spAt l (h - 1) = x at *
  obtain ⟨p, f, t⟩ := x
  obtain ⟨p', f', t'⟩ := worst
  refine wpc_st fun K hK => ?_
  simp -dsimp
  refine hK _ _ ?_
  clear hK K
  simp -dsimp
  refine draw_go 6 [0, 0, 2, 7, 15, 0, 63, 127] (by kernel_rfl) (by kernel_rfl) ?_
  simp -dsimp -implicitDefEqProofs [g1, g2, g3, hkw, hlt', hsz2, hce, spO, spV]
  have e : decide (Sp.mk p f t = Sp.mk p' f' t') = (p == p' && (f == f' && t == t')) := by
    rw [Bool.eq_iff_iff]; simp
  rw [e] at hq
  exact fin_ret rfl (leave_pure (by simp) hq)


set_option maxRecDepth 100000 in
set_option maxHeartbeats 8000000 in
theorem indexf_tc (l : List Sp) (v : Value) (worst : Sp) (kl kw kh n cap : Nat) (H : List Nat) (m : Mem) (hl : SpsAt m v l) (hlen : l.length ≤ 64) (hk : m.get kl = .cells false 0 #[v]) (hw : m.get kw = spO worst) (hh : m.get kh = arrN H)
    (hn : n ≤ H.length) (hH : H.length ≤ 15) (hent : ∀ r, r < n → 1 ≤ H.getD r 0 ∧ H.getD r 0 ≤ l.length) (hfound : asFind l worst (H.take n) < n) (Q) (h : Q (.int .i64 (asFind l worst (H.take n) : Nat)) m) :
    TC Try.prog 105 [.slice (some ⟨kh, 0, none⟩) n cap, .func (.func 106) #[] #[.pointer (some ⟨kl, 0, none⟩), .pointer (some ⟨kw, 0, none⟩)]] m Q := by
  refine TC_fn mixed Try.func105 rfl Try.ntmps105 rfl (by decide) (by simp) ?_
  have t1 := lt_cells hk
  have t2 := lt_cells (c := (spV worst).toArray) hw
  have t3 := lt_cells (c := (H.map fun (x : Nat) => Value.int .i64 (x : Int)).toArray) hh
  have g3 : ∀ os, ({ base := m.get, n := m.top, loc := os } : Mem).get kh = arrN H := fun os => by rw [get_base _ _ _ t3, hh]
  have hcl : ∀ (x : Nat), 1 ≤ x → x ≤ l.length → ∀ Q, Q (.bool (decide (spAt l (x - 1) = worst))) { base := m.get, n := m.top, loc := [] } → TC Try.prog 106 [.int .i64 (x : Int), .pointer (some ⟨kl, 0, none⟩), .pointer (some ⟨kw, 0, none⟩)] { base := m.get, n := m.top, loc := [] } Q := fun x h1 h2 Q hq => by
    refine aseq_tc l v worst kl kw x _ ?_ h1 h2 hlen (by rw [get_base _ _ _ t1, hk]) (by rw [get_base _ _ _ t2, hw]) Q hq
    rcases hl with hl | ⟨k, off, cap, ro, c, e, hcap, hm, hsz, hc⟩
    · exact .inl hl
    · exact .inr ⟨k, off, cap, ro, c, e, hcap, by rw [get_base _ _ _ (lt_cells hm), hm], hsz, hc⟩
  simp -dsimp
  refine loop_by (fun f env m' => ∃ j, f = n - j ∧ j ≤ n ∧ elook env 8 = some (.int .i64 j) ∧ elook env 7 = some (.int .i64 n) ∧ elook env 0 = some (.slice (some ⟨kh, 0, none⟩) n cap) ∧ elook env 1 = some (.func (.func 106) #[] #[.pointer (some ⟨kl, 0, none⟩), .pointer (some ⟨kw, 0, none⟩)]) ∧
    (∀ r, r < j → ¬ spAt l (H.getD r 0 - 1) = worst) ∧ m' = { base := m.get, n := m.top, loc := [] }) n ⟨0, rfl, by omega, by simp -dsimp⟩ ?_
  rintro f env m' ⟨j, rfl, hj, e8, e7, e0, e1, hno, rfl⟩
  by_cases hlt : j < n
  · have hlt' : (j : Int) < (n : Int) := by omega
    have hjH : j < H.length := by omega
    obtain ⟨x, hx⟩ : ∃ x, H[j]? = some x := ⟨H[j], List.getElem?_eq_getElem hjH⟩
    have hxD : H.getD j 0 = x := by rw [List.getD_eq_getElem?_getD, hx]; rfl
    have hxg : ∀ h, H[j]'h = x := fun h => by rw [List.getElem?_eq_getElem h] at hx; exact Option.some.inj hx
    obtain ⟨x1, x2⟩ := hent j hlt
    rw [hxD] at x1 x2
    have hkw : IntKind.i64.wrap ((j : Int) + 1) = ((j + 1 : Nat) : Int) := wI64 (by omega) (by omega)
    have hcx := hcl x x1 x2
    by_cases hq : spAt l (x - 1) = worst
    · rw [decide_eq_true hq] at hcx
      have hfe : asFind l worst (H.take n) = j := by
        unfold asFind
        refine findIdx_eq _ _ j (by simp; omega) (by simp only [List.getElem_take]; rw [hxg]; simpa using hq) fun r hr => ?_
        have := hno r hr
        rw [List.getD_eq_getElem?_getD, List.getElem?_eq_getElem (by omega)] at this
        simpa [List.getElem_take] using this
      rw [hfe] at h
      simp -dsimp [e8, e7, e0, e1, hlt', g3, arrN, hjH, hxg]
      refine hcx _ ?_
      simp -dsimp
      exact fin_ret rfl (leave_pure (by simp) h)
    · rw [decide_eq_false hq] at hcx
      simp -dsimp [e8, e7, e0, e1, hlt', g3, arrN, hjH, hxg]
      refine hcx _ ?_
      simp -dsimp [e8, e7, e0, e1, hkw]
      refine ⟨n - (j + 1), by omega, j + 1, rfl, by omega, by omega, fun r hr => ?_⟩
      rw [← List.getD_eq_getElem?_getD]
      by_cases hrj : r < j
      · exact hno r hrj
      · have : r = j := by omega
        subst this; rw [hxD]; exact hq
  · have hjn : j = n := by omega
    subst hjn
    refine absurd hfound ?_
    unfold asFind
    have : (H.take j).findIdx (fun k => decide (spAt l (k - 1) = worst)) = (H.take j).length := by
      rw [List.findIdx_eq_length]
      intro x hx
      obtain ⟨r, hr, rfl⟩ := List.getElem_of_mem hx
      simp at hr
      have := hno r (by omega)
      rw [List.getD_eq_getElem?_getD, List.getElem?_eq_getElem (by omega)] at this
      simpa [List.getElem_take] using this
    rw [this]
    simp
    omega
end Go.Lm
/- alloc.Assign. -/
set_option linter.unusedSimpArgs false
set_option linter.unusedVariables false
namespace Go.Lm
open Go.Proofs

theorem asLoop_le {l : List Sp} {s : Sp} {b : Nat} : ∀ (n : Nat) (has : List Nat) (free : Int) (worst : Sp), (∀ r, has.getD r 0 ≤ b) → ∀ r, (asLoop l s n has free worst).1.getD r 0 ≤ b := by
  intro n
  induction n with
  | zero => intro has free worst h r; exact h r
  | succ n ih =>
    intro has free worst h r
    unfold asLoop
    dsimp only
    split
    · refine ih _ _ _ (fun r => ?_) r
      rw [getD_set]
      split
      · omega
      · exact h r
    · split
      · exact ih _ _ _ h r
      · exact ih _ _ _ h r
structure AsOk (has : List Nat) (out : List Int) (i : Nat) : Prop where
  h1 : has.length = 15
  h2 : out.length = i
  ent : ∀ r, has.getD r 0 ≤ i
theorem asRun_ok (l : List Sp) {n : Nat} (hn : n ≤ 15) : ∀ i, AsOk (asRun l n i).1 (asRun l n i).2 i := by
  intro i
  induction i with
  | zero =>
    refine ⟨by simp [asRun], rfl, fun r => ?_⟩
    unfold asRun
    rw [List.getD_eq_getElem?_getD, List.getElem?_replicate]
    split <;> simp
  | succ i ih =>
    obtain ⟨h1, h2, h3⟩ := ih
    unfold asRun asStep
    dsimp only
    have hle := asLoop_le (l := l) (s := spAt l i) n (asRun l n i).1 (-1) (spAt l i) h3
    have hln := (asLoop_spec (l := l) (s := spAt l i) n (asRun l n i).1 (-1) (spAt l i) (by omega)).1
    rw [h1] at hln
    have hset : ∀ f r, ((asLoop l (spAt l i) n (asRun l n i).1 (-1) (spAt l i)).1.set f (i + 1)).getD r 0 ≤ i + 1 := fun f r => by
      rw [getD_set]
      split
      · omega
      · have := hle r; omega
    split
    · exact ⟨by simp [hln], by simp [h2], hset _⟩
    · split
      · exact ⟨hln, by simp [h2], fun r => Nat.le_succ_of_le (hle r)⟩
      · exact ⟨by simp [hln], by simp [h2], hset _⟩
theorem regsQ_eq2 (regs : Int) : (if 0 < (if 15 < regs then 15 else regs) then (if 15 < regs then 15 else regs) else 0) = (regsQ regs : Int) := by
  unfold regsQ
  (repeat' split) <;> omega
theorem yn15 : Array.replicate 15 (Value.int .i64 0) = ((List.replicate 15 0).map fun (x : Nat) => Value.int .i64 (x : Int)).toArray := by simp only [List.map_replicate, List.toArray_replicate]; rfl

theorem mk0 (n : Nat) : (Array.range n).map (fun x => [Value.int .i64 0][x % 1]?.getD default) = ((List.replicate n (0 : Int)).map (Value.int .i64)).toArray := by
  apply Array.ext_getElem?
  intro j
  simp only [Array.getElem?_map, Array.getElem?_range, List.map_replicate, List.getElem?_toArray, List.getElem?_replicate, Nat.mod_one]
  by_cases hj : j < n <;> simp [hj]
theorem orQ_more (a b : Sp) : (0 < orQ (cmpQ a.to b.to) (cmpQ a.place b.place)) ↔ spMore a b = true := by
  unfold orQ cmpQ spMore
  simp only [Bool.or_eq_true, Bool.and_eq_true, decide_eq_true_eq]
  by_cases h1 : a.to < b.to
  · simp [h1]; omega
  · by_cases h2 : b.to < a.to
    · simp [h1, h2]
    · by_cases h3 : a.place < b.place
      · simp [h1, h2, h3]; omega
      · by_cases h4 : b.place < a.place
        · simp [h1, h2, h3, h4]; omega
        · simp [h1, h2, h3, h4]
theorem set_same (l : List Nat) (q : Nat) (h : l.getD q 0 = 0) : l.set q 0 = l := by
  apply List.ext_getElem?
  intro j
  rw [List.getElem?_set]
  split
  · rename_i e
    subst e
    split
    · rename_i hq
      rw [List.getElem?_eq_getElem hq]
      rw [List.getD_eq_getElem?_getD, List.getElem?_eq_getElem hq] at h
      simpa using h.symm
    · rw [List.getElem?_eq_none (by omega)]
  · rfl
theorem set_one (L : List Value) (n i : Nat) (x : Value) (h : L.length = n) : (if i = 0 ∧ 1 = n then #[x] else (L.set i x).toArray) = (L.set i x).toArray := by
  split
  · rename_i e
    obtain ⟨rfl, rfl⟩ := e
    match L, h with
    | [z], _ => rfl
  · rfl
theorem spV_len (s : Sp) : (spV s).length = 3 := rfl
/-- the loop over the registers, downward -/
def aiI (m : Mem) (l : List Sp) (n i : Nat) (has0 : List Nat) (V : Value) (Row : Ob) (g : List Ob) (f : Nat) (j11 : Int) (env : Env) (m' : Mem) : Prop :=
  ∃ (has : List Nat) (free : Int) (worst : Sp) (rs : List Ob), f ≤ n ∧ has.length = 15 ∧ (∀ r, has.getD r 0 ≤ i) ∧ asLoop l (spAt l i) n has0 (-1) (spAt l i) = asLoop l (spAt l i) f has free worst ∧
    elook env 1 = some (.int .i64 n) ∧ elook env 2 = some (.pointer (some ⟨m.top, 0, none⟩)) ∧ elook env 5 = some (.pointer (some ⟨m.top + 1, 0, none⟩)) ∧ elook env 6 = some (.slice (some ⟨m.top + 2, 0, none⟩) l.length l.length) ∧
    elook env 7 = some (.int .i64 i) ∧ elook env 8 = some (.pointer (some ⟨m.top + (g.length + 1 + 1 + 1), 0, none⟩)) ∧ elook env 9 = some (.int .i64 free) ∧ elook env 10 = some (.pointer (some ⟨m.top + (g.length + 1 + 1 + 1 + 1), 0, none⟩)) ∧
    elook env 11 = some (.int .i64 j11) ∧ elook env 19 = some V ∧ elook env 20 = some (.int .i64 l.length) ∧ elook env 21 = some (.int .i64 i) ∧
    m' = { base := m.get, n := m.top, loc := .cells false 0 #[V] :: arrN has :: Row :: (g ++ spO (spAt l i) :: spO worst :: rs) }

set_option maxRecDepth 100000 in
set_option maxHeartbeats 8000000 in
theorem assign_tc (l : List Sp) (v : Value) (regs : Int) (m : Mem) (hl : SpsAt m v l) (hlen : l.length ≤ 64) (kk : Nat) (hf : m.get kk = .free) (Q : Value → Mem → Prop)
    (h : Q (.slice (some ⟨kk, 0, none⟩) l.length l.length) (m.put kk (.cells false 1 (i64A (asRun l (regsQ regs) l.length).2)))) :
    TC Try.prog 47 [v, .int .i64 regs] m Q := by
  refine TC_fn mixed Try.func47 rfl Try.ntmps47 rfl (by decide) (by simp) ?_
  have hre := regsQ_eq2 regs
  obtain ⟨n, hn⟩ : ∃ n, regsQ regs = n := ⟨_, rfl⟩
  have hn15 : n ≤ 15 := by rw [← hn]; exact regsQ_le regs
  rw [hn] at h hre
  have hv : ∃ a cap, v = .slice a l.length cap := by
    rcases hl with ⟨rfl, rfl⟩ | ⟨k, off, cap, ro, c, rfl, _⟩
    · exact ⟨_, _, rfl⟩
    · exact ⟨_, _, rfl⟩
  obtain ⟨av, cv, rfl⟩ := hv
  refine wpc_st fun K hK => ?_
  simp -dsimp
  refine hK _ _ ?_
  clear hK K
  refine wpc_st fun K hK => ?_
  simp -dsimp [hre]
  refine hK _ _ ?_
  clear hK K
  refine wpc_st fun K hK => ?_
  simp -dsimp
  refine hK _ _ ?_
  clear hK K
  have hby : (Try.prog.info? 3).map (fun x => (x.bytes : Int)) = some 8 := by kernel_rfl
  have hl1 : (l.length : Int) < 281474976710656 := by omega
  have hl2 : 8 * (l.length : Int) ≤ 140737488355328 := by omega
  refine wpc_st fun K hK => ?_
  simp -dsimp [hby, hl1, hl2]
  refine hK _ _ ?_
  clear hK K
  have hz0 := mk0 l.length
  refine wpc_mid (fun env m' => elook env 6 = some (.slice (some ⟨m.top + 2, 0, none⟩) l.length l.length) ∧ ∃ A B g, m' = { base := m.get, n := m.top, loc := A :: B :: rowI (asRun l n l.length).2 :: g }) ?_ ?_
  · refine wpc_st fun K hK => ?_
    simp -dsimp
    refine hK _ _ ?_
    clear hK K
    simp -dsimp
    refine loop_by (fun f env m' => ∃ i g, f = l.length - i ∧ i ≤ l.length ∧ elook env 1 = some (.int .i64 n) ∧ elook env 2 = some (.pointer (some ⟨m.top, 0, none⟩)) ∧ elook env 5 = some (.pointer (some ⟨m.top + 1, 0, none⟩)) ∧ elook env 6 = some (.slice (some ⟨m.top + 2, 0, none⟩) l.length l.length) ∧
      elook env 19 = some (.slice av l.length cv) ∧ elook env 20 = some (.int .i64 l.length) ∧ elook env 21 = some (.int .i64 i) ∧
      m' = { base := m.get, n := m.top, loc := .cells false 0 #[.slice av l.length cv] :: arrN (asRun l n i).1 :: rowI ((asRun l n i).2 ++ List.replicate (l.length - i) 0) :: g }) l.length ⟨0, [], rfl, by omega, by simp -dsimp [hz0, rowI, arrN, asRun]⟩ ?_
    rintro f env m' ⟨i, g, rfl, hi, e1, e2, e5, e6, e19, e20, e21, rfl⟩
    by_cases hlt : i < l.length
    · have hlt' : (i : Int) < (l.length : Int) := by omega
      have hrec : asRun l n (i + 1) = asStep l n (asRun l n i) i := rfl
      have hok := asRun_ok l hn15 i
      generalize asRun l n i = st at *
      obtain ⟨has, out⟩ := st
      simp only at hok
      rcases hl with ⟨rfl, _⟩ | ⟨k, off, cap, ro, c, e, hcap, hm, hsz, hc⟩
      · simp at hlt
      simp only [Value.slice.injEq, true_and] at e
      obtain ⟨rfl, rfl⟩ := e
      have htop := lt_cells hm
      have hgt : ∀ os, ({ base := m.get, n := m.top, loc := os } : Mem).get k = .cells ro 3 c := fun os => by rw [get_base _ _ _ htop, hm]
      have hx : l[i]? = some (spAt l i) := by unfold spAt; rw [List.getD_eq_getElem?_getD, List.getElem?_eq_getElem hlt]; rfl
      have hce := hc i _ hx
      have hsz2 : off + i * 3 + 3 ≤ c.size := by
        have : (i + 1) * 3 ≤ cv * 3 := Nat.mul_le_mul_right 3 (by omega)
        omega
      refine wpc_st fun K hK => ?_
      simp -dsimp [e20, e21, hlt']
      refine hK _ _ ?_
      clear hK K
      refine wpc_sq fun K hK => ?_
      simp -dsimp
      refine hK _ _ ?_
      clear hK K
      refine wpc_mid (fun env' m' => elook env' 1 = some (.int .i64 n) ∧ elook env' 2 = some (.pointer (some ⟨m.top, 0, none⟩)) ∧ elook env' 5 = some (.pointer (some ⟨m.top + 1, 0, none⟩)) ∧ elook env' 6 = some (.slice (some ⟨m.top + 2, 0, none⟩) l.length l.length) ∧
        elook env' 19 = some (.slice (some ⟨k, off, none⟩) l.length cv) ∧ elook env' 20 = some (.int .i64 l.length) ∧ elook env' 21 = some (.int .i64 i) ∧ ∃ g,
        m' = { base := m.get, n := m.top, loc := .cells false 0 #[.slice (some ⟨k, off, none⟩) l.length cv] :: arrN (asRun l n (i + 1)).1 :: rowI ((asRun l n (i + 1)).2 ++ List.replicate (l.length - (i + 1)) 0) :: g }) ?_ ?_
      · rw [wpc_block]
        have hrow0 : ∀ x, (out ++ List.replicate (l.length - i) (0 : Int)).set i x = out ++ x :: List.replicate (l.length - (i + 1)) 0 := fun x => by
          rw [List.set_append_right _ _ (by rw [hok.h2]; exact Nat.le_refl _), hok.h2, Nat.sub_self]
          obtain ⟨d, hd⟩ : ∃ d, l.length - i = d + 1 := ⟨l.length - i - 1, by omega⟩
          rw [hd, show l.length - (i + 1) = d by omega, List.replicate_succ]
          rfl
        have hrl : (out ++ List.replicate (l.length - i) (0 : Int)).length = l.length := by simp [hok.h2]; omega
        obtain ⟨Z, hZ⟩ : ∃ Z, out ++ List.replicate (l.length - i) (0 : Int) = Z := ⟨_, rfl⟩
        rw [hZ] at hrow0 hrl ⊢
        refine wpc_st fun K hK => ?_
        simp -dsimp [e19, e20, e21, hlt', hgt, hsz2, hce]
        refine hK _ _ ?_
        clear hK K
        obtain ⟨Y, hY⟩ : ∃ Y : Int → List Value, Y = fun x => (out ++ x :: List.replicate (l.length - (i + 1)) 0).map (.int .i64) := ⟨_, rfl⟩
        have hY0 : ∀ x, (Z.map (Value.int .i64)).set i (.int .i64 x) = Y x := fun x => by rw [hY, ← List.map_set, hrow0]
        have hYl : ∀ x, (Y x).length = l.length := fun x => by rw [hY]; simp [hok.h2]; omega
        have hYs : ∀ x y, (Y x).set i (.int .i64 y) = Y y := fun x y => by rw [← hY0 x, List.set_set, hY0]
        have hif0 : ∀ x, (if i = 0 ∧ 1 = l.length then #[Value.int .i64 x] else (Y x).toArray) = (Y x).toArray := fun x => by
          rw [← hY0 x]; exact set_one (Z.map (Value.int .i64)) l.length i (.int .i64 x) (by simp [hrl])
        have hkwn : IntKind.i64.wrap ((n : Int) - 1) = (n : Int) - 1 := wI64 (by omega) (by omega)
        have hoinit : ∀ s, (if (spV s).length = 3 then (spV s).toArray else setL #[.int .i64 0, .int .i64 0, .int .i64 0] 0 (spV s)) = (spV s).toArray := fun s => rfl
        have hif1 := fun y j x => set_one (Y y) l.length j x (hYl y)
        have hlt1 : i + 1 ≤ l.length := by omega
        refine wpc_st fun K hK => ?_
        simp -dsimp [e6, hlt', rowI, hrl, hlt, hlt1, hif0, hY0, spV_len]
        refine hK _ _ ?_
        clear hK K
        refine wpc_sq fun K hK => ?_
        simp -dsimp
        refine draw_go 3 [0, 0, 2, 7] (by kernel_rfl) (by kernel_rfl) ?_
        simp -dsimp -implicitDefEqProofs [spV_len]
        refine hK _ _ ?_
        clear hK K
        refine wpc_mid (aiI m l n i has (.slice (some ⟨k, off, none⟩) l.length cv) (.cells false 1 (Y (-1)).toArray) g 0 (-1)) ?_ ?_
        · refine wpc_st fun K hK => ?_
          simp -dsimp [e1]
          refine hK _ _ ?_
          clear hK K
          simp -dsimp
          refine loop_by (fun f => aiI m l n i has (.slice (some ⟨k, off, none⟩) l.length cv) (.cells false 1 (Y (-1)).toArray) g f ((f : Int) - 1)) n ?_ ?_
          · refine ⟨has, -1, spAt l i, [], Nat.le_refl _, hok.h1, hok.ent, rfl, ?_⟩
            simp -dsimp [e1, e2, e5, e6, e19, e20, e21, spO, hkwn]
            rfl
          · clear e1 e2 e5 e6 e19 e20 e21
            rintro f env2 m2 ⟨has2, free, worst, rs, hfn, hl2, hle2, hal, e1, e2, e5, e6, e7, e8, e9, e10, e11, e19, e20, e21, rfl⟩
            rcases f with _ | q
            · simp -dsimp [e11]
              refine ⟨has2, free, worst, rs, Nat.zero_le _, hl2, hle2, hal, ?_⟩
              simp -dsimp [e1, e2, e5, e6, e7, e8, e9, e10, e11, e19, e20, e21]
            · have e11 : elook env2 11 = some (.int .i64 q) := by rw [e11]; congr 2; omega
              have hq15 : q < 15 := by omega
              have hq15' : (q : Int) < 15 := by omega
              have hq14 : q ≤ 14 := by omega
              have hqn : ¬ (q : Int) < 0 := by omega
              have hqn0 : (0 : Int) ≤ q := by omega
              obtain ⟨x, hx2⟩ : ∃ x, has2[q]? = some x := ⟨has2[q], List.getElem?_eq_getElem (by omega)⟩
              have hxD : has2.getD q 0 = x := by rw [List.getD_eq_getElem?_getD, hx2]; rfl
              have hxg : ∀ h, has2[q]'h = x := fun h => by rw [List.getElem?_eq_getElem h] at hx2; exact Option.some.inj hx2
              have hxi : x ≤ i := by rw [← hxD]; exact hle2 q
              have hun : asLoop l (spAt l i) (q + 1) has2 free worst = if deadA l (spAt l i).fr x then asLoop l (spAt l i) q (has2.set q 0) q worst else if spMore (spAt l (x - 1)) worst then asLoop l (spAt l i) q has2 free (spAt l (x - 1)) else asLoop l (spAt l i) q has2 free worst := by
                conv => lhs; unfold asLoop
                rw [hxD]
              have hkw : IntKind.i64.wrap ((q : Int) - 1) = (q : Int) - 1 := wI64 (by omega) (by omega)
              have hsetle : ∀ r, (has2.set q 0).getD r 0 ≤ i := fun r => by
                rw [getD_set]; split
                · omega
                · exact hle2 r
              refine wpc_sq fun K hK => ?_
              simp -dsimp [e11, hqn, hqn0]
              refine hK _ _ ?_
              clear hK K
              refine wpc_mid (aiI m l n i has (.slice (some ⟨k, off, none⟩) l.length cv) (.cells false 1 (Y (-1)).toArray) g q q) ?_ ?_
              · rw [wpc_block]
                refine wpc_mid (fun env'' m'' => (elook env'' 1 = some (.int .i64 n) ∧ elook env'' 2 = some (.pointer (some ⟨m.top, 0, none⟩)) ∧ elook env'' 5 = some (.pointer (some ⟨m.top + 1, 0, none⟩)) ∧ elook env'' 6 = some (.slice (some ⟨m.top + 2, 0, none⟩) l.length l.length) ∧ elook env'' 7 = some (.int .i64 i) ∧ elook env'' 8 = some (.pointer (some ⟨m.top + (g.length + 1 + 1 + 1), 0, none⟩)) ∧ elook env'' 9 = some (.int .i64 free) ∧ elook env'' 10 = some (.pointer (some ⟨m.top + (g.length + 1 + 1 + 1 + 1), 0, none⟩)) ∧ elook env'' 11 = some (.int .i64 q) ∧ elook env'' 19 = some (.slice (some ⟨k, off, none⟩) l.length cv) ∧ elook env'' 20 = some (.int .i64 l.length) ∧ elook env'' 21 = some (.int .i64 i)) ∧
                  ∃ has3, ((deadA l (spAt l i).fr x ∧ has3 = has2.set q 0) ∨ (¬ deadA l (spAt l i).fr x ∧ 1 ≤ x ∧ has3 = has2)) ∧ m'' = { base := m.get, n := m.top, loc := .cells false 0 #[.slice (some ⟨k, off, none⟩) l.length cv] :: arrN has3 :: .cells false 1 (Y (-1)).toArray :: (g ++ spO (spAt l i) :: spO worst :: rs) }) ?_ ?_
                · rcases Nat.eq_zero_or_pos x with rfl | hx1
                  · have hsm := set_same has2 q hxD
                    simp -dsimp
                    refine draw_go 15 [0, 1, 3, 7, 15, 31, 31, 95, 223, 479, 1023, 2047, 4095, 31, 8223, 32767, 65535] (by kernel_rfl) (by kernel_rfl) ?_
                    simp -dsimp -implicitDefEqProofs [undef, e1, e2, e5, e6, e7, e8, e9, e10, e11, e19, e20, e21, hq15', hq15, hl2, hxg, arrN]
                    exact ⟨_, ⟨.inl rfl, rfl⟩, by rw [hsm]⟩
                  · have hx0 : ¬ x = 0 := by omega
                    have hxl : x - 1 < l.length := by omega
                    have hxl' : ((x - 1 : Nat) : Int) < (l.length : Int) := by omega
                    have hkwx : IntKind.i64.wrap ((x : Int) - 1) = ((x - 1 : Nat) : Int) := by rw [wI64 (by omega) (by omega)]; omega
                    obtain ⟨ck0, ck1, ck2⟩ := sps_cell hc hxl
                    by_cases hdd : (spAt l (x - 1)).to < (spAt l i).fr
                    · simp -dsimp
                      refine draw_go 15 [0, 1, 3, 7, 15, 31, 31, 95, 223, 479, 1023, 2047, 4095, 31, 8223, 32767, 65535] (by kernel_rfl) (by kernel_rfl) ?_
                      simp -dsimp -implicitDefEqProofs [undef, e1, e2, e5, e6, e7, e8, e9, e10, e11, e19, e20, e21, hq15', hq15, hl2, hxg, arrN, hx1, hkwx, hxl', hgt, ck2, hdd, spO, spV, hq14]
                      exact ⟨_, .inl ⟨.inr hdd, rfl⟩, by rw [List.map_set]; rfl⟩
                    · have hnd : ¬ deadA l (spAt l i).fr x := fun h => by rcases h with h | h <;> omega
                      simp -dsimp
                      refine draw_go 15 [0, 1, 3, 7, 15, 31, 31, 95, 223, 479, 1023, 2047, 4095, 31, 8223, 32767, 65535] (by kernel_rfl) (by kernel_rfl) ?_
                      simp -dsimp -implicitDefEqProofs [undef, e1, e2, e5, e6, e7, e8, e9, e10, e11, e19, e20, e21, hq15', hq15, hl2, hxg, arrN, hx1, hkwx, hxl', hgt, ck2, hdd, spO, spV, hq14]
                      exact ⟨_, .inr ⟨hnd, hx1, rfl⟩, rfl⟩
                · clear e1 e2 e5 e6 e7 e8 e9 e10 e11 e19 e20 e21
                  rintro env3 m3 ⟨⟨e1, e2, e5, e6, e7, e8, e9, e10, e11, e19, e20, e21⟩, has3, hcs, rfl⟩
                  rcases hcs with ⟨hd, rfl⟩ | ⟨hd, hx1, rfl⟩
                  · rw [if_pos hd] at hun
                    have hql : q < has2.length := by omega
                    simp -dsimp [e1, e2, e5, e6, e7, e8, e9, e10, e11, e19, e20, e21, hq15', hq15, hl2, arrN]
                    refine ⟨has2.set q 0, q, worst, rs, by omega, by simp [hl2], hsetle, by rw [hal, hun], ?_⟩
                    simp -dsimp [e1, e2, e5, e6, e7, e8, e9, e10, e11, e19, e20, e21, arrN]
                  · rw [if_neg hd] at hun
                    have hxl : x - 1 < l.length := by omega
                    have hxl' : ((x - 1 : Nat) : Int) < (l.length : Int) := by omega
                    have hkwx : IntKind.i64.wrap ((x : Int) - 1) = ((x - 1 : Nat) : Int) := by rw [wI64 (by omega) (by omega)]; omega
                    have hx0 : ¬ x = 0 := by omega
                    have hxx : l[x - 1]? = some (spAt l (x - 1)) := by unfold spAt; rw [List.getD_eq_getElem?_getD, List.getElem?_eq_getElem hxl]; rfl
                    have hcx := hc (x - 1) _ hxx
                    have hsz3 : off + (x - 1) * 3 + 3 ≤ c.size := by
                      have : (x - 1 + 1) * 3 ≤ cv * 3 := Nat.mul_le_mul_right 3 (by omega)
                      omega
                    refine wpc_sq fun K hK => ?_
                    simp -dsimp [e1, e2, e5, e6, e7, e8, e9, e10, e11, e19, e20, e21, hq15', hq15, hl2, hxg, arrN, hx0]
                    refine hK _ _ ?_
                    clear hK K
                    refine wpc_sq fun K hK => ?_
                    simp -dsimp
                    refine draw_go 8 [0, 0, 2, 6, 14, 31, 63, 0, 255] (by kernel_rfl) (by kernel_rfl) ?_
                    simp -dsimp -implicitDefEqProofs [e1, e2, e5, e6, e7, e8, e9, e10, e11, e19, e20, e21, hq15', hq15, hl2, hxg, hx0, hkwx, hxl', hgt, hsz3, hcx, spV_len]
                    refine hK _ _ ?_
                    clear hK K
                    have hmo := orQ_more (spAt l (x - 1)) worst
                    have hal3 := hal.trans hun
                    clear hal hun
                    refine wpc_sq fun K hK => ?_
                    simp -dsimp [spO, spV]
                    refine draw_go 9 [0, 1, 0, 4, 15, 0, 32, 0, 128, 511, 1023, 2047, 4095] (by kernel_rfl) (by kernel_rfl) ?_
                    simp -dsimp -implicitDefEqProofs [e1, e2, e5, e6, e7, e8, e9, e10, e11, e19, e20, e21]
                    refine .inl ⟨_, fun m' _ => compare_tc _ _ _ _ ⟨rfl, rfl⟩, drw_go ?_⟩
                    simp -dsimp -implicitDefEqProofs [e1, e2, e5, e6, e7, e8, e9, e10, e11, e19, e20, e21]
                    refine compare_tc _ _ _ _ ?_
                    simp -dsimp -implicitDefEqProofs [e1, e2, e5, e6, e7, e8, e9, e10, e11, e19, e20, e21, y2]
                    refine or2_tc (cmpQ (spAt l (x - 1)).to worst.to) (cmpQ (spAt l (x - 1)).place worst.place) _ _ (by simp [get_loc]) _ ?_
                    simp -dsimp -implicitDefEqProofs [e1, e2, e5, e6, e7, e8, e9, e10, e11, e19, e20, e21]
                    refine hK _ _ ?_
                    clear hK K
                    cases hmr : spMore (spAt l (x - 1)) worst
                    · have hno : ¬ 0 < orQ (cmpQ (spAt l (x - 1)).to worst.to) (cmpQ (spAt l (x - 1)).place worst.place) := fun h => by rw [hmo, hmr] at h; cases h
                      simp -dsimp [hno]
                      rw [hmr] at hal3
                      refine ⟨has3, free, worst, rs ++ [spO (spAt l (x - 1)), .cells false 1 #[.int .i64 (cmpQ (spAt l (x - 1)).to worst.to), .int .i64 (cmpQ (spAt l (x - 1)).place worst.place)]], by omega, hl2, hle2, hal3, ?_⟩
                      simp -dsimp [e1, e2, e5, e6, e7, e8, e9, e10, e11, e19, e20, e21, spO, spV, arrN]
                    · have hno : 0 < orQ (cmpQ (spAt l (x - 1)).to worst.to) (cmpQ (spAt l (x - 1)).place worst.place) := hmo.2 hmr
                      simp -dsimp [hno, e1, e2, e5, e6, e7, e8, e9, e10, e11, e19, e20, e21]
                      rw [hmr] at hal3
                      refine ⟨has3, free, spAt l (x - 1), rs ++ [spO (spAt l (x - 1)), .cells false 1 #[.int .i64 (cmpQ (spAt l (x - 1)).to worst.to), .int .i64 (cmpQ (spAt l (x - 1)).place worst.place)]], by omega, hl2, hle2, hal3, ?_⟩
                      simp -dsimp [e1, e2, e5, e6, e7, e8, e9, e10, e11, e19, e20, e21, spO, spV, arrN]
              · rintro env3 m3 ⟨has3, free3, worst3, rs3, hfn3, hl3, hle3, hal3, f1, f2, f5, f6, f7, f8, f9, f10, f11, f19, f20, f21, rfl⟩
                simp -dsimp [f11, hkw]
                refine ⟨q, by omega, has3, free3, worst3, rs3, by omega, hl3, hle3, hal3, ?_⟩
                simp -dsimp [f1, f2, f5, f6, f7, f8, f9, f10, f11, f19, f20, f21]
        · clear e1 e2 e5 e6 e19 e20 e21
          rintro env2 m2 ⟨has4, free, worst, rs, _, hl4, hle4, hal, e1, e2, e5, e6, e7, e8, e9, e10, e11, e19, e20, e21, rfl⟩
          have hal : asLoop l (spAt l i) n has (-1) (spAt l i) = (has4, free, worst) := hal
          obtain ⟨_, _, s3, s4, s5, s6, s7⟩ := asLoop_spec (l := l) (s := spAt l i) n has (-1) (spAt l i) (by rw [hok.h1]; exact hn15)
          rw [hal] at s3 s4 s5 s6 s7
          simp only at s3 s4 s5 s6 s7
          have hst0 : asRun l n (i + 1) = if 0 ≤ free then (has4.set free.toNat (i + 1), out ++ [free]) else if worst = spAt l i then (has4, out ++ [-1]) else (has4.set (asFind l worst (has4.take n)) (i + 1), (out.set (has4.getD (asFind l worst (has4.take n)) 0 - 1) (-1)) ++ [((asFind l worst (has4.take n) : Nat) : Int)]) := by
            rw [hrec]; unfold asStep; simp only [hal]
          have hYr : ∀ y, Y y = (out ++ [y] ++ List.replicate (l.length - (i + 1)) 0).map (.int .i64) := fun y => by rw [hY]; simp
          have hkwi : IntKind.i64.wrap ((i : Int) + 1) = ((i + 1 : Nat) : Int) := wI64 (by omega) (by omega)
          by_cases hfr : 0 ≤ free
          · rw [if_pos hfr] at hst0
            obtain ⟨fn, rfl⟩ : ∃ fn : Nat, free = fn := ⟨free.toNat, by omega⟩
            rw [Int.toNat_natCast] at hst0
            have hfn : fn < n := by
              rcases s4 with ⟨r, hr, _, _, e⟩ | ⟨_, e⟩
              · omega
              · omega
            have hf15 : fn < 15 := by omega
            have hf15' : (fn : Int) < 15 := by omega
            have hf14 : fn ≤ 14 := by omega
            have hfr' : ¬ (fn : Int) < 0 := by omega
            rw [hst0]
            simp -dsimp [e1, e2, e5, e6, e7, e8, e9, e10, e11, e19, e20, e21, undef, hfr', hf15, hf15', hf14, arrN, hl4, hkwi, hlt', hYl, hlt, hlt1, hYs, hif0, hif1]
            rw [hY]; rfl
          · have hfr' : free < 0 := by omega
            rw [if_neg hfr] at hst0
            by_cases hws : worst = spAt l i
            · rw [if_pos hws] at hst0
              rw [hst0]
              subst hws
              simp -dsimp [e1, e2, e5, e6, e7, e8, e9, e10, e11, e19, e20, e21, undef, hfr', hfr, spO, spV]
              rw [hY]; rfl
            · rw [if_neg hws] at hst0
              have hlive : ∀ r, r < n → ¬ deadA l (spAt l i).fr (has.getD r 0) := by
                rcases s4 with ⟨r, hr, _, _, e⟩ | ⟨e, _⟩
                · omega
                · exact e
              have hent : ∀ r, r < n → 1 ≤ has4.getD r 0 ∧ has4.getD r 0 ≤ l.length := fun r hr => by
                have h1 := (s3 r hr).2 (hlive r hr)
                have h2 := hle4 r
                have h3 : ¬ has.getD r 0 = 0 := fun e => hlive r hr (.inl e)
                omega
              have hfound : asFind l worst (has4.take n) < n := by
                rcases s5 with e | ⟨r, hr, _, e⟩
                · exact absurd e hws
                · have h1 := (s3 r hr).2 (hlive r hr)
                  have h4 : (has4.take n).length = n := by rw [List.length_take]; omega
                  have h5 : asFind l worst (has4.take n) < (has4.take n).length := by
                    unfold asFind
                    refine List.findIdx_lt_length_of_exists ⟨has4.getD r 0, ?_, ?_⟩
                    · rw [List.mem_iff_getElem?]
                      exact ⟨r, by rw [List.getElem?_take, if_pos hr, List.getD_eq_getElem?_getD, List.getElem?_eq_getElem (by omega)]; rfl⟩
                    · rw [h1, e]; simp
                  omega
              have hidx := fun (m' : Mem) hl hk hw hh Q h => indexf_tc l (.slice (some ⟨k, off, none⟩) l.length cv) worst m.top (m.top + (g.length + 1 + 1 + 1 + 1)) (m.top + 1) n 15 has4 m' hl hlen hk hw hh (by omega) (by omega) hent hfound Q h
              obtain ⟨xe1, xe2⟩ := hent _ hfound
              generalize asFind l worst (has4.take n) = fn at *
              have hf15 : fn < 15 := by omega
              have hf15' : (fn : Int) < 15 := by omega
              have hf14 : fn ≤ 14 := by omega
              have hfn0 : (0 : Int) ≤ fn := by omega
              obtain ⟨x, hx2⟩ : ∃ x, has4[fn]? = some x := ⟨has4[fn], List.getElem?_eq_getElem (by omega)⟩
              have hxD : has4.getD fn 0 = x := by rw [List.getD_eq_getElem?_getD, hx2]; rfl
              have hxg : ∀ h, has4[fn]'h = x := fun h => by rw [List.getElem?_eq_getElem h] at hx2; exact Option.some.inj hx2
              have hxi : x ≤ i := by rw [← hxD]; exact hle4 fn
              rw [hxD] at xe1 xe2 hst0
              have hkwx : IntKind.i64.wrap ((x : Int) - 1) = ((x - 1 : Nat) : Int) := by rw [wI64 (by omega) (by omega)]; omega
              have hxl : x - 1 < l.length := by omega
              have hxl' : ((x - 1 : Nat) : Int) < (l.length : Int) := by omega
              have hxl1 : x - 1 + 1 ≤ l.length := by omega
              have hYw : ((Y (-1)).set (x - 1) (.int .i64 (-1))).set i (.int .i64 fn) = (out.set (x - 1) (-1) ++ (fn : Int) :: List.replicate (l.length - (i + 1)) 0).map (.int .i64) := by
                rw [hY]
                simp only [List.map_append, List.map_set, List.map_cons]
                rw [List.set_append_left _ _ (by simp [hok.h2]; omega), List.set_append_right _ _ (by simp [hok.h2])]
                simp [hok.h2]
              have hif2 : ∀ (y : Int) (j : Nat) (z x : Value), (if i = 0 ∧ 1 = l.length then #[x] else (((Y y).set j z).set i x).toArray) = (((Y y).set j z).set i x).toArray := fun y j z x => set_one _ _ _ _ (by simp [hYl])
              have hneq : (worst.place == (spAt l i).place && (worst.fr == (spAt l i).fr && worst.to == (spAt l i).to)) = false := by
                rw [Bool.eq_false_iff]
                intro e
                simp only [Bool.and_eq_true, beq_iff_eq] at e
                refine hws ?_
                obtain ⟨a1, a2, a3⟩ := e
                generalize spAt l i = s at *
                cases s; cases worst
                simp only [Sp.mk.injEq]
                exact ⟨a1, a2, a3⟩
              have hn15' : (n : Int) ≤ 15 := by omega
              rw [hst0]
              refine wpc_sq fun K hK => ?_
              refine wpc_sq fun K2 hK2 => ?_
              simp -dsimp [e1, e2, e5, e6, e7, e8, e9, e10, e11, e19, e20, e21, undef, hfr', hfr, spO, spV, hneq]
              refine hK2 _ _ ?_
              clear hK2 K2
              simp -dsimp [e1, e2, e5, e6, e7, e8, e9, e10, e11, e19, e20, e21, hn15', hn15, arrN]
              refine hidx _ (.inr ⟨k, off, cv, ro, c, rfl, hcap, hgt _, hsz, hc⟩) (by simp [get_loc0]) (by simp [get_loc, spO, spV]) (by simp [get_loc, arrN]) _ ?_
              simp -dsimp [e1, e2, e5, e6, e7, e8, e9, e10, e11, e19, e20, e21, hf15, hf15', hf14, hl4, hxg, hkwx, hxl, hxl', hxl1, hYl, hif1, hfn0]
              refine hK _ _ ?_
              clear hK K
              simp -dsimp [e1, e2, e5, e6, e7, e8, e9, e10, e11, e19, e20, e21, hf15, hf15', hf14, hl4, hxg, hkwi, hYl, hfn0, hlt, hlt', hlt1, hif2, hYw]
              refine ⟨by simp [arrN], ?_⟩
              rw [if_neg (by omega)]
              simp [rowI]
      · rintro env2 m2 ⟨e1, e2, e5, e6, e19, e20, e21, g2, rfl⟩
        have hkw : IntKind.i64.wrap ((i : Int) + 1) = ((i + 1 : Nat) : Int) := wI64 (by omega) (by omega)
        simp -dsimp [e21, hkw]
        exact ⟨l.length - (i + 1), by omega, i + 1, rfl, by omega, e1, e2, e5, e6, e19, e20, by omega, rfl, rfl⟩
    · have hi2 : i = l.length := by omega
      subst hi2
      have hlt' : ¬ (l.length : Int) < (l.length : Int) := by omega
      simp -dsimp [e20, e21, hlt', e6]
  · rintro env m' ⟨e6, A, B, g, rfl⟩
    simp -dsimp [e6]
    exact fin_ret rfl (leave_row_at (i := 2) (by simp [rowI, i64A]) (i64A_gnd _) hf h)
end Go.Lm

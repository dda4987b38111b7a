/- The soundness of append. -/
import Derived.Test.YtfgcnehjdaiipaaL8
namespace Go.Lm

theorem Rep.kill {σ : Sg} {M : Nat → Ob} {w : World} (h : Rep σ M w) (k : Nat) : Rep σ (Mset M k .dead) w ∧ Fr σ M w σ (Mset M k .dead) w := by
  have sub : ∀ j, (Mset M k .dead j).alive = true → j ≠ k ∧ Mset M k .dead j = M j := fun j hj => by
    by_cases e : j = k
    · subst e; simp [Mset, Ob.alive] at hj
    · exact ⟨e, Mset_ne M _ e⟩
  refine ⟨Rep.mk' ?_ ?_ ?_ h.bnd, ⟨.refl _, Nat.le_refl _, fun _ _ _ => rfl, ?_, rfl, rfl⟩⟩
  · intro j hj
    by_cases e : j = k
    · subst e; simp [Mset] at hj
    · rw [Mset_ne M _ e] at hj; exact h.fr j hj
  · intro j hj
    obtain ⟨e1, e2⟩ := sub j hj
    rw [e2] at hj ⊢
    obtain ⟨p, hp⟩ := h.place hj
    exact ⟨p, hp, h.ok hp⟩
  · intro j j' hjj hr ha p p' hp hp'
    obtain ⟨e1, e2⟩ := sub j (rw_alive hr)
    obtain ⟨e3, e4⟩ := sub j' ha
    rw [e2] at hr; rw [e4] at ha
    exact h.sep j j' hjj hr ha p p' hp hp'
  · rintro b _ ⟨j, p, hp, hb, hr⟩
    obtain ⟨e1, e2⟩ := sub j (rw_alive hr)
    rw [e2] at hr
    exact ⟨j, p, hp, hb, hr⟩

theorem growBy_le (n : Nat) : ∀ (r c : Nat), 256 ≤ c → Builtin.growBy n r c ≤ 2 ^ r * c
  | 0, c, _ => by simp [Builtin.growBy]
  | r + 1, c, h => by
    simp only [Builtin.growBy]
    split
    · have : 1 ≤ 2 ^ (r + 1) := Nat.one_le_two_pow
      exact Nat.le_mul_of_pos_left c this
    · have ih := growBy_le n r (c + (c + 768) / 4) (by omega)
      have h2 : c + (c + 768) / 4 ≤ 2 * c := by omega
      calc _ ≤ 2 ^ r * (c + (c + 768) / 4) := ih
        _ ≤ 2 ^ r * (2 * c) := Nat.mul_le_mul_left _ h2
        _ = 2 ^ (r + 1) * c := by rw [Nat.pow_succ, Nat.mul_assoc]

theorem next_le (need old : Nat) (h : old < need) : Builtin.nextslicecap need old ≤ 16 * need := by
  unfold Builtin.nextslicecap
  split
  · omega
  · split
    · omega
    · have := growBy_le need 4 old (by omega)
      omega

section
variable {P : Program} {σ : Sg} {M : Nat → Ob} {w : World}

theorem tyQ_src {t : TypeId} (h : (tyQ P t).isSrc = true) : ∃ d, P.underlying t = some d ∧ ((∃ e, d = .slice e) ∨ d = .string) := by
  cases hq : tyQ P t with
  | sl el s => exact ⟨_, (tyQ_sl hq).1, .inl ⟨_, rfl⟩⟩
  | str => exact ⟨_, tyQ_str hq, .inr rfl⟩
  | _ => rw [hq] at h; cases h

theorem firstCells_drew (a : Addr) (n : Nat) (w : World) (X Y : Array Value) (h : (loadCells a n).run P w = .ok X w) (h' : (loadCells a n).run P w.drew = .ok Y w.drew) : Y = X := by
  have key : ∀ (n i : Nat) (acc X Y : Array Value), (loadCellsFrom a i n acc).run P w = .ok X w → (loadCellsFrom a i n acc).run P w.drew = .ok Y w.drew → Y = X := by
    intro n
    induction n with
    | zero => intro i acc X Y h h'; simp [loadCellsFrom] at h h'; rw [← h, ← h']
    | succ n ih =>
      intro i acc X Y h h'
      simp only [loadCellsFrom, Sem.run_bind, run_load, World.cell?_drew] at h h'
      cases hc : w.cell? (a.add i) with
      | some v => rw [hc] at h h'; exact ih _ _ _ _ h h'
      | none =>
        rw [hc] at h h'
        have e : w.drew.farLoad P (a.add i) (Mode.plain == .atomic) = w.farLoad P (a.add i) (Mode.plain == .atomic) := rfl
        rw [e] at h'
        cases hf : w.farLoad P (a.add i) (Mode.plain == .atomic) with
        | ok r => rw [hf] at h h'; obtain ⟨v, l⟩ := r; exact ih _ _ _ _ h h'
        | error x => rw [hf] at h; cases h
  exact key n 0 #[] X Y h h'

theorem lfirst_size {s n : Nat} {x : Value} {new : Array Value} (hf : lfirst M s n x = some new) : new.size = n * s := by
  unfold lfirst at hf
  split at hf
  · split at hf
    · split at hf
      · cases hf; simp; omega
      · cases hf
    · cases hf
  · split at hf
    · rename_i hz; cases hf; simp [hz]
    · cases hf
  · rename_i b
    split at hf
    · rename_i hb
      cases hf
      have : (b.extract 0 n).data.size = (b.extract 0 n).size := rfl
      rw [Array.size_map, this, ByteArray.size_extract, hb.1]
      omega
    · cases hf
  · cases hf

/-- what append asks before it parts its ways -/
theorem append_head {ts : Array TypeId} {ty t tx el s n rlen rcap : Nat} {rargs : Array Value} {rbase : Option Addr} {rx : Value} {d : TypeDesc}
    (ht : ts[0]? = some t) (htx : ts[1]? = some tx) (hs : rargs[0]? = some (.slice rbase rlen rcap)) (hx : rargs[1]? = some rx)
    (hu : P.underlying t = some (.slice el)) (hsz : sizeQ P el = some s) (hd : P.underlying tx = some d) (hd' : (∃ e, d = .slice e) ∨ d = .string)
    (hn : (Builtin.lenOf rx).run P w = .ok n w) {i : TypeInfo} (hi : P.info? el = some i) (hb : 0 < i.bytes) (hbig : (rlen + n) * i.bytes ≤ 2 ^ 44) {z : Value} (hz : (zeroValue el).run P w.drew = .ok z w.drew)
    {NEW : Array Value} (hnew : ∀ w', w' = w ∨ w' = w.drew → (Builtin.firstCells s n rx).run P w' = .ok NEW w') :
    (rlen + n ≤ rcap → (Builtin.append_ ts ty rargs).run P w =
      ((match rbase with | some a => storeCells (a.add (rlen * s)) NEW.toList | none => pure ()).run P w).andThen fun _ w' => .ok (.slice rbase (rlen + n) rcap) w') ∧
    (rcap < rlen + n → ∀ OLD, (Builtin.firstCells s rlen (.slice rbase rlen rcap)).run P w.drew = .ok OLD w.drew → ∃ cap, rlen + n ≤ cap ∧ (Builtin.append_ ts ty rargs).run P w =
      .ok (.slice (some ⟨w.heap.size, 0, none⟩) (rlen + n) cap) (w.drew.alloc (.cells (OLD ++ NEW ++ Builtin.zeroCells z.cells (cap - (rlen + n))) el))) := by
  constructor
  · intro hle
    unfold Builtin.append_
    rcases hd' with ⟨e, rfl⟩ | rfl
    all_goals
      simp only [ht, htx, hs, hx, Sem.run_bind, rUnd hu, Result.andThen_ok, rSize hsz, rUnd hd, Sem.run_pure]
      simp only [Bool.false_eq_true, if_false, Bool.not_false, if_true]
      rw [Sem.run_bind, hn, Result.andThen_ok, if_pos hle]
      simp only [Sem.run_bind, hnew w (.inl rfl), Result.andThen_ok]
      cases rbase <;> simp
  · intro hlt OLD hold
    refine ⟨(Question.appendCap (rlen + n) rcap el).cut (w.tape w.drawn (.appendCap (rlen + n) rcap el)), by simp only [Question.cut]; omega, ?_⟩
    have hbig' : ¬ (Builtin.nextslicecap (rlen + n) rcap * i.bytes > 2 ^ 48) := by
      have := next_le (rlen + n) rcap hlt
      have h1 : Builtin.nextslicecap (rlen + n) rcap * i.bytes ≤ (16 * (rlen + n)) * i.bytes := Nat.mul_le_mul_right _ this
      have h2 : (16 * (rlen + n)) * i.bytes = 16 * ((rlen + n) * i.bytes) := by rw [Nat.mul_assoc]
      omega
    unfold Builtin.append_
    rcases hd' with ⟨e, rfl⟩ | rfl
    all_goals
      simp only [ht, htx, hs, hx, Sem.run_bind, rUnd hu, Result.andThen_ok, rSize hsz, rUnd hd, Sem.run_pure]
      simp only [Bool.false_eq_true, if_false, Bool.not_false, if_true]
      rw [Sem.run_bind, hn, Result.andThen_ok, if_neg (by omega)]
      simp only [false_or, Sem.run_bind, rInfo hi, Result.andThen_ok]
      have h0 : ¬ (((rlen + n : Nat) : Int) > IntKind.i64.max ∧ i.bytes = 0) := by omega
      rw [if_neg h0]
      simp only [Sem.run_bind, rInfo hi, Result.andThen_ok]
      rw [if_neg hbig']
      simp only [Sem.run_bind, Result.andThen_ok, run_choose, Question.forced, Bool.false_eq_true, if_false]
      generalize (Question.appendCap (rlen + n) rcap el).cut (w.tape w.drawn (.appendCap (rlen + n) rcap el)) = cap
      simp only [rInfo hi, Result.andThen_ok, run_askRoom]
      rw [show ({ heap := w.heap, tape := w.tape, drawn := w.drawn + 1, os := w.os, output := w.output } : World) = w.drew from rfl]
      rw [hold]
      simp only [Result.andThen_ok]
      rw [hnew w.drew (.inr rfl)]
      simp only [Result.andThen_ok]
      rw [hz]
      rfl

theorem zeroCells_size (z : Array Value) (n : Nat) : (Builtin.zeroCells z n).size = n * z.size := by simp [Builtin.zeroCells]

/-- A new row behind nothing. -/
theorem append_new (hR : Rep σ M w) {k : Nat} (hk : M k = .free) {el s n cp : Nat} {z new NEW : Array Value} (hN : aaRel (sRel σ) new NEW) (hn : 0 < n) (hs : 0 < s) (hz : z.size = s) (hns : new.size = n * s) (hcp : 0 + n ≤ cp) :
    RanV σ M w k (.ok (.slice (some ⟨w.heap.size, 0, none⟩) (0 + n) cp) (w.drew.alloc (.cells ((#[] : Array Value) ++ NEW ++ Builtin.zeroCells z (cp - (0 + n))) el))) { val := .slice (some ⟨k, 0, none⟩) n n, new := some (.cells false s new) } := by
  have hsz : ((#[] : Array Value) ++ NEW ++ Builtin.zeroCells z (cp - (0 + n))).size = cp * s := by
    rw [Array.size_append, Array.size_append, zeroCells_size, ← hN.1, hns, hz]
    simp only [Array.size_empty, Nat.zero_add]
    rw [← Nat.add_mul]; congr 1; omega
  have hpre : ∀ (j : Nat) (y : Value), NEW[j]? = some y → ((#[] : Array Value) ++ NEW ++ Builtin.zeroCells z (cp - (0 + n)))[j]? = some y := fun j y hy => by
    rw [Array.getElem?_append_left]
    · simpa using hy
    · rcases Nat.lt_or_ge j NEW.size with h' | h'
      · simpa using h'
      · rw [Array.getElem?_eq_none h'] at hy; cases hy
  generalize (#[] : Array Value) ++ NEW ++ Builtin.zeroCells z (cp - (0 + n)) = C0 at hsz hpre ⊢
  obtain ⟨g1, g2⟩ := hR.drew.alloc hk el s new C0 (by rw [hsz, hns]; exact Nat.mul_le_mul_right _ (by omega)) (fun j x hx => by
    obtain ⟨y, hy, hsy⟩ := hN.get hx
    exact ⟨y, hpre j y hy, hsy⟩)
  refine ⟨_, _, _, rfl, ?_, g1, ⟨g2.ext, g2.size, g2.keep, g2.less, g2.os, g2.out⟩⟩
  refine ⟨⟨w.heap.size, 0, none⟩, cp, ⟨w.heap.size, 0, s, C0.size⟩, by simp, ⟨rfl, rfl, by simp [Sset], rfl, by simp⟩, ?_⟩
  by_cases hcn : cp = n
  · exact .inl hcn
  · right
    refine ⟨hs, by omega, by omega, ?_⟩
    simp only [hsz]; omega

theorem append_sound (hR : Rep σ M w) {k : Nat} (hk : M k = .free) {ts : Array TypeId} {ty : TypeId} {args : List Value} {rargs : Array Value} {e : Eff}
    (hl : args.length = rargs.size) (hr : ∀ (j : Nat) (x y : Value), args[j]? = some x → rargs[j]? = some y → vRel σ x y) (h : lappend P M k ts args = some e) :
    RanV σ M w k ((Builtin.append_ ts ty rargs).run P w) e := by
  unfold lappend at h
  split at h
  case h_2 => cases h
  rename_i t tx base len cap x ht htx
  obtain ⟨rs, hrs⟩ : ∃ rs, rargs[0]? = some rs := ⟨rargs[0]'(by simp at hl; omega), Array.getElem?_eq_getElem _⟩
  obtain ⟨rx, hrx⟩ : ∃ rx, rargs[1]? = some rx := ⟨rargs[1]'(by simp at hl; omega), Array.getElem?_eq_getElem _⟩
  have hs0 := hr 0 (.slice base len cap) rs (by simp) hrs
  have hx0 := hr 1 x rx (by simp) hrx
  split at h
  case h_2 => cases h
  rename_i el s n hq hn
  obtain ⟨hu, hs⟩ := tyQ_sl hq
  split at h
  case isTrue => cases h
  rename_i hsrc
  obtain ⟨d, hd, hd'⟩ := tyQ_src (by simpa using hsrc)
  split at h
  case h_2 => cases h
  rename_i z by_ new hz hb hf
  obtain ⟨i, hi, hib⟩ : ∃ i, P.info? el = some i ∧ i.bytes = by_ := by
    cases hi : P.info? el with
    | none => rw [hi] at hb; cases hb
    | some i => rw [hi] at hb; cases hb; exact ⟨i, rfl, rfl⟩
  subst hib
  split at h
  case isTrue => cases h
  rename_i hc
  have hc := Decidable.not_not.1 hc
  obtain ⟨hc1, hc2, hc3, hc4, hc5⟩ := hc
  have hlen := lenOf_sound (P := P) (w := w) hx0 hn
  obtain ⟨NEW, hN1, hN2⟩ := firstCells_sound (P := P) hR hx0 hf
  obtain ⟨NEW', hN1', hN2'⟩ := firstCells_sound (P := P) hR.drew hx0 hf
  have hnew : ∀ w', w' = w ∨ w' = w.drew → ∃ C, (Builtin.firstCells s n rx).run P w' = .ok C w' ∧ aaRel (sRel σ) new C := by
    rintro w' (rfl | rfl)
    · exact ⟨NEW, hN1, hN2⟩
    · exact ⟨NEW', hN1', hN2'⟩
  have hNN : NEW' = NEW := by
    have e1 : NEW'.size = NEW.size := by rw [← hN2.1, ← hN2'.1]
    cases rx with
    | slice a l c =>
      cases a with
      | none => simp only [Builtin.firstCells, Sem.run_pure] at hN1 hN1'; cases hN1; cases hN1'; rfl
      | some a =>
        simp only [Builtin.firstCells] at hN1 hN1'
        exact firstCells_drew a (n * s) w NEW NEW' hN1 hN1'
    | string b => simp only [Builtin.firstCells, Sem.run_pure] at hN1 hN1'; cases hN1; cases hN1'; rfl
    | _ => simp [Builtin.firstCells] at hN1
  subst hNN
  have hnew2 : ∀ w', w' = w ∨ w' = w.drew → (Builtin.firstCells s n rx).run P w' = .ok NEW' w' := by
    rintro w' (rfl | rfl)
    · exact hN1
    · exact hN1'
  have hns : new.size = n * s := lfirst_size hf
  have hzd : (zeroValue el).run P w.drew = .ok z w.drew := rZero hz
  cases base with
  | none =>
    cases vRel_sl0 hs0
    simp only at h
    split at h
    case isFalse => cases h
    rename_i h00
    obtain ⟨rfl, rfl⟩ := h00
    obtain ⟨hin, hout⟩ := append_head (P := P) (w := w) (ty := ty) ht htx hrs hrx hu hs hd hd' hlen hi hc3 hc4 hzd hnew2
    split at h
    · rename_i hn0
      subst hn0
      cases h
      refine ranV_pure hR (rv := .slice none 0 0) ?_ rfl
      rw [hin (by omega)]
      rfl
    · rename_i hn0
      cases h
      obtain ⟨cp, hcp, hrun⟩ := hout (by omega) #[] rfl
      rw [hrun]
      exact append_new hR hk hN2 (by omega) hc1 hc2 hns hcp
  | some a =>
    obtain ⟨a', cap', p, rfl, ha, hcr⟩ := vRel_sl hs0
    have hcap : cap ≤ cap' := by rcases hcr with h | h <;> omega
    obtain ⟨hin, hout⟩ := append_head (P := P) (w := w) (ty := ty) ht htx hrs hrx hu hs hd hd' hlen hi hc3 hc4 hzd hnew2
    simp only at h
    split at h
    · rename_i hn0
      subst hn0
      cases h
      refine ranV_pure hR (rv := .slice (some a') len cap') ?_ ⟨a', cap', p, rfl, ha, hcr⟩
      have hne : NEW' = #[] := by
        have := hN2.1
        rw [hns] at this
        exact Array.eq_empty_of_size_eq_zero (by omega)
      rw [hin (by omega), hne]
      rfl
    · rename_i hn0
      split at h
      case h_2 => cases h
      rename_i ro ee c hM
      split at h
      · rename_i hfit
        split at h
        case isFalse => cases h
        rename_i hro
        cases h
        obtain ⟨rfl, hcs⟩ := hro
        obtain ⟨w', g1, g2, g3⟩ := storeCells_sound (P := P) hR ha hM (len * s) hN2 (by rw [hns]; rw [Nat.add_mul] at hcs; omega)
        refine ⟨σ, w', .slice (some a') (len + n) cap', ?_, ⟨a', cap', p, rfl, ha, hcr⟩, g2, g3⟩
        rw [hin (by omega)]
        simp only [g1, Result.andThen_ok]
      · rename_i hfit
        split at h
        · rename_i hc0
          subst hc0
          cases h
          have hcap0 : cap' = 0 := by rcases hcr with h | h <;> omega
          subst hcap0
          have hl0 : len = 0 := by omega
          subst hl0
          obtain ⟨cp, hcp, hrun⟩ := hout (by omega) #[] (by simp [Builtin.firstCells, loadCells, loadCellsFrom])
          rw [hrun]
          exact append_new hR hk hN2 (by omega) hc1 hc2 hns hcp
        · rename_i hcne
          split at h
          case isFalse => cases h
          rename_i hro
          cases h
          obtain ⟨rfl, rfl, hend⟩ := hro
          obtain ⟨q, hq1, hqe, hcel⟩ := hR.cel _ _ _ _ hM
          obtain ⟨hlim, C, T, f, hC, hCs, hfz⟩ := hR.own _ _ _ hM q hq1
          have hqp : q = p := by have := ha.2.2.1; rw [hq1] at this; cases this; rfl
          subst hqp
          have hkb : k ≠ a.block := fun e => by rw [e, hM] at hk; cases hk
          by_cases hreal : len + n ≤ cap'
          · -- there is room: in place
            have hroom : a'.off + cap' * q.e ≤ q.lim := by rcases hcr with h | h <;> omega
            have hadd : a'.add (len * ee) = ⟨q.b, q.o + c.size, none⟩ := by
              rw [add_off a' ha.2.1, ha.2.2.2.1, ha.2.2.2.2, Nat.add_assoc, hend]
            have hoff : a'.off + (len + n) * ee ≤ C.size := by
              have : (len + n) * ee ≤ cap' * ee := Nat.mul_le_mul_right _ hreal
              rw [hqe] at hroom; omega
            have hnn : q.o + c.size + NEW'.size ≤ q.lim := by
              have : (len + n) * ee ≤ cap' * ee := Nat.mul_le_mul_right _ hreal
              rw [← hN2.1, hns]
              rw [hqe, ha.2.2.2.2] at hroom
              rw [Nat.add_mul] at this; omega
            have hcell : ∀ j x, C[j]? = some x → w.cell? ⟨q.b, j, none⟩ = some x := fun j x hx => by rw [cell_of_row w _ _ _ _ _ hC]; exact hx
            have hst := run_storeCells_cells (P := P) q.b (q.o + c.size) NEW'.toList 0 w (fun j hj => by
                simp only [Array.length_toList] at hj
                rw [Option.isSome_iff_exists]
                exact ⟨_, hcell _ _ (Array.getElem?_eq_getElem (by omega))⟩)
              (fun j hj => by simp only [Array.length_toList] at hj; exact hfz _ (by omega))
              (fun v hv => by obtain ⟨x, hx⟩ := hN2.mem hv; exact sRel_oneCell hx)
            rw [Nat.add_zero] at hst
            have hC' := setCells_heap NEW'.toList q.b (q.o + c.size) w C T f hC
            have hob : ObOk σ (.cells false ee (c.extract a.off c.size ++ new)) ⟨q.b, q.o + a.off, ee, q.lim⟩ (w.setCells q.b (q.o + c.size) NEW'.toList) := by
              refine ⟨?_, ?_, ?_⟩
              · intro ro e' c' ho
                cases ho
                refine ⟨rfl, fun j x hx => ?_⟩
                simp only [cell_of_row _ _ _ _ _ _ hC']
                rw [setL_get _ _ _ _ (by simp; omega)]
                simp only [Array.length_toList, Array.getElem?_toList]
                by_cases hj : j < c.size - a.off
                · rw [Array.getElem?_append_left (by simp; omega), Array.getElem?_extract, if_pos (by omega)] at hx
                  obtain ⟨v, hv, hsv⟩ := hcel _ _ hx
                  rw [cell_of_row _ _ _ _ _ _ hC] at hv
                  exact ⟨v, by rw [if_neg (by omega), Nat.add_assoc]; exact hv, hsv⟩
                · rw [Array.getElem?_append_right (by simp; omega)] at hx
                  simp only [Array.size_extract] at hx
                  obtain ⟨v, hv, hsv⟩ := hN2.get hx
                  have hjl : j - (c.size - a.off) < NEW'.size := by
                    rcases Nat.lt_or_ge (j - (c.size - a.off)) NEW'.size with h' | h'
                    · exact h'
                    · rw [Array.getElem?_eq_none (by simpa using h')] at hv; cases hv
                  exact ⟨v, by rw [if_pos (by omega), show q.o + a.off + j - (q.o + c.size) = j - (min c.size c.size - a.off) by omega]; exact hv, hsv⟩
              · intro e' c' ho
                cases ho
                refine ⟨?_, _, _, _, hC', by rw [setL_size]; exact hCs, fun j hj => ?_⟩
                · have := hN2.1; simp only [Array.size_append, Array.size_extract]; omega
                · have := hfz j hj
                  simp only [World.frozen?, hC, hC'] at this ⊢
                  exact this
              · intro es ho; cases ho
            obtain ⟨g1, g2⟩ := hR.move (p' := ⟨q.b, q.o + a.off, ee, q.lim⟩) (o := .cells false ee (c.extract a.off c.size ++ new)) (w' := w.setCells q.b (q.o + c.size) NEW'.toList) hq1 (by rw [hM]; rfl) hk rfl hob (by simp) (fun b hb => setCells_heap_other _ _ _ _ _ hb) (setCells_size _ _ _ _) (setCells_os _ _ _ _) (setCells_out _ _ _ _)
            refine ⟨_, _, .slice (some a') (len + n) cap', ?_, ?_, g1, g2⟩
            · rw [hin hreal]
              simp only [hadd, hst, Result.andThen_ok]
            · refine ⟨a', cap', ⟨q.b, q.o + a.off, ee, q.lim⟩, rfl, ⟨rfl, ha.2.1, by simp [Sset], ha.2.2.2.1, by rw [ha.2.2.2.2]; simp⟩, ?_⟩
              by_cases hcn : cap' = len + n
              · exact .inl hcn
              · right; exact ⟨hc1, by omega, hreal, by rw [hqe] at hroom; exact hroom⟩
          · -- no room: a new row
            obtain ⟨OLD, ho1, ho2⟩ := loadCells_sound (P := P) hR.drew ha hM (len * ee) (by omega)
            obtain ⟨cp, hcp, hrun⟩ := hout (by omega) OLD ho1
            rw [hrun]
            have hOLDs : OLD.size = len * ee := by rw [← ho2.1]; simp; omega
            have hsz : (OLD ++ NEW' ++ Builtin.zeroCells z.cells (cp - (len + n))).size = cp * ee := by
              rw [Array.size_append, Array.size_append, zeroCells_size, ← hN2.1, hns, hc2, hOLDs]
              rw [← Nat.add_mul, ← Nat.add_mul]; congr 1; omega
            have hrel : aaRel (sRel σ) (c.extract a.off c.size ++ new) (OLD ++ NEW') := by
              refine aaRel.append ?_ hN2
              rw [← hend]; exact ho2
            have hpre : ∀ (j : Nat) (y : Value), (OLD ++ NEW')[j]? = some y → (OLD ++ NEW' ++ Builtin.zeroCells z.cells (cp - (len + n)))[j]? = some y := fun j y hy => by
              rw [Array.getElem?_append_left]
              · exact hy
              · rcases Nat.lt_or_ge j (OLD ++ NEW').size with h' | h'
                · exact h'
                · rw [Array.getElem?_eq_none h'] at hy; cases hy
            have hle : (OLD ++ NEW').size ≤ (OLD ++ NEW' ++ Builtin.zeroCells z.cells (cp - (len + n))).size := by simp
            generalize OLD ++ NEW' ++ Builtin.zeroCells z.cells (cp - (len + n)) = C0 at hsz hpre hle ⊢
            obtain ⟨k1, k2⟩ := hR.drew.kill a.block
            obtain ⟨g1, g2⟩ := k1.alloc (k := k) (by rw [Mset_ne _ _ hkb]; exact hk) el ee (c.extract a.off c.size ++ new) C0 (by rw [hrel.1]; exact hle) (fun j x hx => by
                obtain ⟨y, hy, hsy⟩ := hrel.get hx
                exact ⟨y, hpre j y hy, hsy⟩)
            refine ⟨_, _, _, rfl, ?_, g1, Fr.trans ⟨k2.ext, k2.size, k2.keep, k2.less, k2.os, k2.out⟩ g2⟩
            refine ⟨⟨w.heap.size, 0, none⟩, cp, ⟨w.heap.size, 0, ee, C0.size⟩, rfl, ⟨rfl, rfl, by simp [Sset], rfl, by simp⟩, ?_⟩
            by_cases hcn : cp = len + n
            · exact .inl hcn
            · right
              refine ⟨hc1, by omega, by omega, ?_⟩
              simp only [hsz]; omega
end
end Go.Lm

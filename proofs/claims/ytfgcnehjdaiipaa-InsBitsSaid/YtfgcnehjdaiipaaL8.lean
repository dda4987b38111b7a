/- The operations' soundness: conversions, append, copy, len, min, max. -/
import Derived.Test.YtfgcnehjdaiipaaL7
namespace Go.Lm

section
variable {P : Program} {σ : Sg} {M : Nat → Ob} {w : World}

theorem bytesQ_sound : ∀ (l : List Value) (rl : List Value) (bs : List UInt8), bytesQ l = some bs → l.length = rl.length → (∀ (j : Nat) (x y : Value), l[j]? = some x → rl[j]? = some y → sRel σ x y) → ∀ s : ByteArray,
    (forIn rl s fun c r => (match c with
      | .int .u8 n => pure (ForInStep.yield (r.push (UInt8.ofNat n.toNat)))
      | _ => do
        stuck "bytesToString: byte expected"
        pure (ForInStep.yield r) : Sem (ForInStep ByteArray))).run P w = .ok ⟨s.data ++ bs.toArray⟩ w
  | [], rl, bs, h, hl, _, s => by
    cases rl with
    | nil => cases h; simp
    | cons a b => simp at hl
  | x :: l, rl, bs, h, hl, hr, s => by
    cases rl with
    | nil => simp at hl
    | cons y rl =>
      have h0 := hr 0 x y (by simp) (by simp)
      unfold bytesQ at h
      split at h
      · rename_i e; cases e
      · rename_i n r e
        obtain ⟨rfl, rfl⟩ : x = .int .u8 n ∧ l = r := by cases e; exact ⟨rfl, rfl⟩
        cases h0
        cases hb : bytesQ l with
        | none => rw [hb] at h; cases h
        | some bs' =>
          rw [hb] at h; cases h
          have ih := bytesQ_sound l rl bs' hb (by simpa using hl) (fun j x y hx hy => hr (j + 1) x y (by simpa using hx) (by simpa using hy)) (s.push (UInt8.ofNat n.toNat))
          simp only [List.forIn_cons, pure_bind]
          refine Eq.trans ih ?_
          congr 2
          simp [ByteArray.push]
      · cases h

theorem markStringish_run {b : Nat} {C : Array Value} {el : TypeId} {f : Nat × Nat} (h : w.heap[b]? = some (.cells C el f)) : (markStringish ⟨b, 0, none⟩).run P w = .ok () (w.freeze { block := b, off := C.size } 1) := by
  have hsh : w.shape? b = some (el, C.size) := by unfold World.shape?; rw [h]
  simp only [markStringish, Sem.run_bind, run_shape, hsh, Result.andThen_ok, run_freeze]

theorem stringToBytes_run (s : ByteArray) (el : TypeId) : ∃ cap C, s.size ≤ cap ∧ C = (s.data.map fun b => Value.int .u8 b.toNat) ++ Array.replicate (cap - s.size) (.int .u8 0) ∧
    (Conv.stringToBytes el s).run P w = .ok (.slice (some ⟨w.heap.size, 0, none⟩) s.size cap) ((w.drew.alloc (.cells C el)).freeze { block := w.heap.size, off := C.size } 1) := by
  refine ⟨(Question.appendCap s.size 0 el).cut (w.tape w.drawn (.appendCap s.size 0 el)), _, by simp only [Question.cut]; omega, rfl, ?_⟩
  unfold Conv.stringToBytes
  rw [Sem.run_bind]
  simp only [run_choose, Question.forced, Bool.false_eq_true, if_false, Result.andThen_ok]
  generalize (Question.appendCap s.size 0 el).cut (w.tape w.drawn (.appendCap s.size 0 el)) = cap
  generalize (s.data.map fun b => Value.int .u8 b.toNat) ++ Array.replicate (cap - s.size) (.int .u8 0) = C
  rw [Sem.run_bind]
  have q2 : (newRow el C).run P { w with drawn := w.drawn + 1 } = .ok ⟨w.heap.size, 0, none⟩ (w.drew.alloc (.cells C el)) := rfl
  rw [q2, Result.andThen_ok, Sem.run_bind, markStringish_run (show (w.drew.alloc (.cells C el)).heap[w.heap.size]? = some (.cells C el) from heap_alloc_new w.drew _)]
  rfl

theorem bytes_sound (hR : Rep σ M w) {k : Nat} (hk : M k = .free) (el : TypeId) (s : ByteArray) (hpos : 0 < s.size) :
    RanV σ M w k ((Conv.stringToBytes el s).run P w) { val := .slice (some ⟨k, 0, none⟩) s.size s.size, new := some (.cells false 1 (byteCells s)) } := by
  obtain ⟨cap, C, hcap, hC, hrun⟩ := stringToBytes_run (P := P) (w := w) s el
  have hsd : s.data.size = s.size := rfl
  have hCs : C.size = cap := by rw [hC]; simp only [Array.size_append, Array.size_map, Array.size_replicate, hsd]; omega
  obtain ⟨h1, h2⟩ := (hR.drew).alloc hk el 1 (byteCells s) C (by simp only [byteCells, Array.size_map, hsd, hCs]; exact hcap) (fun j x hx => by
    refine ⟨x, ?_, ?_⟩
    · rw [hC]
      have hj : j < (s.data.map fun b => Value.int .u8 b.toNat).size := by
        rcases Nat.lt_or_ge j (byteCells s).size with h' | h'
        · simpa [byteCells] using h'
        · rw [Array.getElem?_eq_none h'] at hx; cases hx
      rw [Array.getElem?_append_left hj]
      exact hx
    · simp only [byteCells, Array.getElem?_map] at hx
      cases hb : s.data[j]? with
      | none => rw [hb] at hx; cases hx
      | some b => rw [hb] at hx; cases hx; rfl)
  clear hC
  have hnew : (w.drew.alloc (.cells C el)).heap[w.heap.size]? = some (.cells C el) := heap_alloc_new w.drew _
  rw [hCs] at hrun
  generalize hw1 : w.drew.alloc (.cells C el) = w1 at h1 h2 hnew hrun
  have hw2 : (w1.freeze { block := w.heap.size, off := cap } 1).heap[w.heap.size]? = some (.cells C el (cap, cap + 1)) := by
    simp only [World.freeze, Nat.one_ne_zero, if_false, Array.getElem?_modify, if_true, hnew]
    simp
  have hw2o : ∀ b, b ≠ w.heap.size → (w1.freeze { block := w.heap.size, off := cap } 1).heap[b]? = w1.heap[b]? := fun b hb => by
    simp only [World.freeze, Nat.one_ne_zero, if_false, Array.getElem?_modify]
    rw [if_neg (by simpa using Ne.symm hb)]
  have hw2s : (w1.freeze { block := w.heap.size, off := cap } 1).heap.size = w1.heap.size := by simp [World.freeze]
  have hw2os : ((w1.freeze { block := w.heap.size, off := cap } 1).os, (w1.freeze { block := w.heap.size, off := cap } 1).tape) = (w1.os, w1.tape) := by simp [World.freeze]
  have hw2out : (w1.freeze { block := w.heap.size, off := cap } 1).output = w1.output := by simp [World.freeze]
  generalize w1.freeze { block := w.heap.size, off := cap } 1 = w2 at hw2 hw2o hw2s hw2os hw2out hrun
  have hp : Sset σ k ⟨w.heap.size, 0, 1, C.size⟩ k = some ⟨w.heap.size, 0, 1, C.size⟩ := by simp [Sset]
  have ho := h1.ok hp
  rw [Mset_same] at ho
  have hob : ObOk (Sset σ k ⟨w.heap.size, 0, 1, C.size⟩) (.cells false 1 (byteCells s)) ⟨w.heap.size, 0, 1, C.size⟩ w2 := by
    refine ⟨?_, ?_, ?_⟩
    · intro ro e c he
      refine ⟨(ho.cel ro e c he).1, fun j x hx => ?_⟩
      obtain ⟨v, hv1, hv2⟩ := (ho.cel ro e c he).2 j x hx
      rw [cell_of_row _ _ _ _ _ _ hnew] at hv1
      exact ⟨v, by rw [cell_of_row _ _ _ _ _ _ hw2]; exact hv1, hv2⟩
    · intro e c he
      obtain ⟨g1, _⟩ := ho.own e c he
      refine ⟨g1, C, el, (cap, cap + 1), hw2, Nat.le_refl _, fun j hj => ?_⟩
      simp only [World.frozen?, hw2]
      simp only [Bool.and_eq_false_iff, decide_eq_false_iff_not]
      left
      simp only [] at hj
      omega
    · intro es he; cases he
  obtain ⟨g1, g2⟩ := h1.turn hp (by rw [Mset_same]; rfl) hob (by simp) hw2o hw2s hw2os hw2out
  have hMM : Mset (Mset M k (.cells false 1 (byteCells s))) k (.cells false 1 (byteCells s)) = Mset M k (.cells false 1 (byteCells s)) := by
    funext j; simp only [Mset]; split <;> rfl
  rw [hMM] at g1 g2
  refine ⟨_, _, _, hrun, ?_, g1, Fr.trans ⟨h2.ext, h2.size, h2.keep, h2.less, h2.os, h2.out⟩ g2⟩
  refine ⟨⟨w.heap.size, 0, none⟩, cap, ⟨w.heap.size, 0, 1, C.size⟩, rfl, ⟨rfl, rfl, hp, rfl, by simp⟩, ?_⟩
  right
  refine ⟨Nat.one_pos, hpos, hcap, ?_⟩
  simp only [hCs]; omega

theorem conv_sound (hR : Rep σ M w) {k : Nat} (hk : M k = .free) {src dst : TypeId} {x rx : Value} {e : Eff} (hx : vRel σ x rx) (h : lconv P M k src dst x = some e) :
    RanV σ M w k ((convert src dst rx).run P w) e := by
  unfold lconv at h
  split at h
  · rename_i kk n
    cases vRel_int hx
    split at h
    · rename_i ks kd hq1 hq2
      cases h
      refine ranV_pure hR (rv := .int kd (kd.wrap n)) ?_ rfl
      simp [convert, rUnd (tyQ_int hq1), rUnd (tyQ_int hq2), Conv.intToInt]
    · cases h
  · rename_i s
    cases vRel_string hx
    split at h
    · rename_i hq1 hq2
      cases h
      refine ranV_pure hR (rv := .string s) ?_ rfl
      simp [convert, rUnd (tyQ_str hq1), rUnd (tyQ_str hq2)]
    · rename_i el sz hq1 hq2
      split at h
      · rename_i hq3
        split at h
        · cases h
        · rename_i hc
          cases h
          have hsz : sz = 1 := by omega
          subst hsz
          obtain ⟨hu, hs⟩ := tyQ_sl hq2
          have hu3 := tyQ_int hq3
          have hr : (convert src dst (.string s)).run P w = (Conv.stringToBytes el s).run P w := by
            simp [convert, rUnd (tyQ_str hq1), rUnd hu, rUnd hu3]
          rw [hr]
          exact bytes_sound hR hk el s (by omega)
      · cases h
    · cases h
  · rename_i l c
    cases vRel_sl0 hx
    split at h
    · rename_i el s hq1 hq2
      split at h
      · rename_i hq3
        cases h
        refine ranV_pure hR (rv := .string .empty) ?_ rfl
        simp [convert, rUnd (tyQ_sl hq1).1, rUnd (tyQ_str hq2), rUnd (tyQ_int hq3), Conv.bytesToString]
      · cases h
    · cases h
  · rename_i a len c
    obtain ⟨a', c', p, rfl, ha, _⟩ := vRel_sl hx
    split at h
    · rename_i el s hq1 hq2
      split at h
      · rename_i hq3
        split at h
        case h_2 => cases h
        rename_i ro ee cs hM
        split at h
        case isFalse => cases h
        rename_i hsz
        cases hb : bytesQ (cs.extract a.off (a.off + len)).toList with
        | none => rw [hb] at h; cases h
        | some bs =>
          rw [hb] at h; cases h
          obtain ⟨C, h1, h2⟩ := loadCells_sound (P := P) hR ha hM len hsz
          refine ranV_pure hR (rv := .string ⟨bs.toArray⟩) ?_ rfl
          have := bytesQ_sound (P := P) (w := w) _ C.toList bs hb (by rw [Array.length_toList, Array.length_toList]; exact h2.1) (fun j x y hx hy => by rw [Array.getElem?_toList] at hx hy; exact h2.2 j x y hx hy) ByteArray.empty
          simp only [convert, Sem.run_bind, rUnd (tyQ_sl hq1).1, rUnd (tyQ_str hq2), Result.andThen_ok, rUnd (tyQ_int hq3), Conv.bytesToString, h1]
          rw [← Array.forIn_toList]
          refine (congrArg (fun r => Result.andThen r fun a w' => Sem.run P (pure (Value.string a)) w') this).trans ?_
          simp [ByteArray.empty, ByteArray.emptyWithCapacity]
          rfl
      · cases h
    · cases h
  · cases h

theorem lenOf_sound {x rx : Value} {n : Nat} (hx : vRel σ x rx) (h : llen x = some n) : (Builtin.lenOf rx).run P w = .ok n w := by
  unfold llen at h
  split at h
  · rename_i a l c
    cases h
    cases a with
    | none => cases vRel_sl0 hx; rfl
    | some a => obtain ⟨a', c', p, rfl, _⟩ := vRel_sl hx; rfl
  · cases h; cases vRel_string hx; rfl
  · cases h

theorem firstCells_sound (hR : Rep σ M w) {x rx : Value} {s n : Nat} {c : Array Value} (hx : vRel σ x rx) (h : lfirst M s n x = some c) :
    ∃ C, (Builtin.firstCells s n rx).run P w = .ok C w ∧ aaRel (sRel σ) c C := by
  unfold lfirst at h
  split at h
  · rename_i a l cp
    obtain ⟨a', c', p, rfl, ha, _⟩ := vRel_sl hx
    split at h
    case h_2 => cases h
    rename_i ro e cs hM
    split at h
    case isFalse => cases h
    rename_i hsz
    cases h
    exact loadCells_sound (P := P) hR ha hM (n * s) hsz
  · split at h
    · rename_i l cp hn
      cases h
      cases vRel_sl0 hx
      exact ⟨#[], rfl, aaRel.nil _⟩
    · cases h
  · rename_i b
    split at h
    case isFalse => cases h
    cases h
    cases vRel_string hx
    refine ⟨_, rfl, rfl, fun i x y hx hy => ?_⟩
    rw [hx] at hy; cases hy
    rw [Array.getElem?_map] at hx
    cases hb : (b.extract 0 n).data[i]? with
    | none => rw [hb] at hx; cases hx
    | some u => rw [hb] at hx; cases hx; rfl
  · cases h

theorem copy_sound (hR : Rep σ M w) {k : Nat} {ts : Array TypeId} {ty : TypeId} {args : List Value} {rargs : Array Value} {e : Eff}
    (hl : args.length = rargs.size) (hr : ∀ (j : Nat) (x y : Value), args[j]? = some x → rargs[j]? = some y → vRel σ x y) (h : lcopy P M ts args = some e) :
    RanV σ M w k ((Builtin.copy_ ts ty rargs).run P w) e := by
  unfold lcopy at h
  split at h
  case h_2 => cases h
  rename_i t base len cp x ht
  obtain ⟨rs, hrs⟩ : ∃ rs, rargs[0]? = some rs := ⟨rargs[0]'(by simp at hl; omega), Array.getElem?_eq_getElem _⟩
  obtain ⟨rx, hrx⟩ : ∃ rx, rargs[1]? = some rx := ⟨rargs[1]'(by simp at hl; omega), Array.getElem?_eq_getElem _⟩
  have hs0 := hr 0 (.slice base len cp) rs (by simp) hrs
  have hx0 := hr 1 x rx (by simp) hrx
  split at h
  case h_2 => cases h
  rename_i el s n hq hn
  obtain ⟨hu, hs⟩ := tyQ_sl hq
  split at h
  case h_2 => cases h
  rename_i new hf
  have e1 := lenOf_sound (P := P) (w := w) hx0 hn
  obtain ⟨C, e2, e3⟩ := firstCells_sound (P := P) hR hx0 hf
  cases base with
  | none =>
    cases vRel_sl0 hs0
    cases h
    refine ranV_pure hR (rv := .int .i64 (Nat.min n len)) ?_ rfl
    simp [Builtin.copy_, ht, hrs, hrx, rUnd hu, e1, rSize hs, e2, goInt]
  | some a =>
    obtain ⟨a', c', p, rfl, ha, _⟩ := vRel_sl hs0
    simp only at h
    split at h
    case h_2 => cases h
    rename_i ro ee c hM
    split at h
    case isFalse => cases h
    rename_i hc
    cases h
    obtain ⟨hro, hsz⟩ := hc
    subst hro
    have hns : new.size = Nat.min n len * s := by
      unfold lfirst at hf
      split at hf
      · split at hf
        · split at hf
          · cases hf; simp; omega
          · cases hf
        · cases hf
      · split at hf
        · rename_i hz; cases hf; simp [hz]
        · cases hf
      · rename_i b
        split at hf
        · rename_i hb
          cases hf
          have : (b.extract 0 (Nat.min n len)).data.size = (b.extract 0 (Nat.min n len)).size := rfl
          rw [Array.size_map, this, ByteArray.size_extract, hb.1]
          omega
        · cases hf
      · cases hf
    obtain ⟨w', g1, g2, g3⟩ := storeCells_sound (P := P) hR ha hM 0 e3 (by omega)
    have e4 : a'.add 0 = a' := by simp [Addr.add]
    rw [e4] at g1
    refine ⟨σ, w', .int .i64 (Nat.min n len), ?_, rfl, g2, g3⟩
    simp [Builtin.copy_, ht, hrs, hrx, rUnd hu, e1, rSize hs, e2, g1, goInt]

theorem min_sound {isMax : Bool} : ∀ (l : List Value) (rl : List Value) (x v : Value), lmin isMax x l = some v → l.length = rl.length → (∀ (j : Nat) (a b : Value), l[j]? = some a → rl[j]? = some b → vRel σ a b) →
    (rl.foldlM (if isMax then Builtin.max2 else Builtin.min2) x).run P w = .ok v w ∧ ∃ k n, v = .int k n
  | [], rl, x, v, h, hl, _ => by
    cases rl with
    | cons a b => simp at hl
    | nil =>
      unfold lmin at h
      split at h
      · cases h; exact ⟨rfl, _, _, rfl⟩
      · rename_i e; cases e
      · cases h
  | y :: l, rl, x, v, h, hl, hr => by
    cases rl with
    | nil => simp at hl
    | cons ry rl =>
      have h0 := hr 0 y ry (by simp) (by simp)
      unfold lmin at h
      split at h
      · rename_i e; cases e
      · rename_i k n k' m r e
        cases e
        cases vRel_int h0
        obtain ⟨ih, hv⟩ := min_sound l rl _ v h (by simpa using hl) (fun j a b ha hb => hr (j + 1) a b (by simpa using ha) (by simpa using hb))
        refine ⟨?_, hv⟩
        rw [List.foldlM_cons, Sem.run_bind]
        cases isMax
        · simpa [Builtin.min2] using ih
        · simpa [Builtin.max2] using ih
      · cases h

theorem len_sound (hR : Rep σ M w) {t ty : TypeId} {ts : Array TypeId} {x rx v : Value} {rargs : Array Value} (ht : ts[0]? = some t) (ha : rargs[0]? = some rx) (hx : vRel σ x rx) (h : llenOf P M t x = some v) :
    (Builtin.len_ ts ty rargs).run P w = .ok v w ∧ ∃ n, v = .int .i64 n := by
  unfold llenOf at h
  split at h
  · rename_i s hq; cases h; cases vRel_string hx; exact ⟨by simp [Builtin.len_, ht, ha, rUnd (tyQ_str hq), goInt], _, rfl⟩
  · rename_i n el s hq; cases h; exact ⟨by simp [Builtin.len_, ht, ha, rUnd (tyQ_arr hq).1, goInt], _, rfl⟩
  · rename_i el s a n c hq
    cases h
    cases a with
    | none => cases vRel_sl0 hx; exact ⟨by simp [Builtin.len_, ht, ha, rUnd (tyQ_sl hq).1, goInt], _, rfl⟩
    | some a => obtain ⟨a', c', p, rfl, _⟩ := vRel_sl hx; exact ⟨by simp [Builtin.len_, ht, ha, rUnd (tyQ_sl hq).1, goInt], _, rfl⟩
  · rename_i k e hq
    cases h
    cases (show rx = .map none from hx)
    exact ⟨by simp [Builtin.len_, ht, ha, rUnd (tyQ_map hq), goInt], _, rfl⟩
  · rename_i k e i hq
    split at h
    case h_2 => cases h
    rename_i es hM
    cases h
    obtain ⟨p, hp, rfl⟩ : ∃ p, σ i = some p ∧ rx = .map (some p.b) := hx
    obtain ⟨p', ents, clk, hp', hb, hl, _⟩ := hR.mp i es hM
    rw [hp] at hp'; cases hp'
    exact ⟨by simp [Builtin.len_, ht, ha, rUnd (tyQ_map hq), goInt, getObj, Sem.run, hb, hl], _, rfl⟩
  · cases h
end
end Go.Lm

/-
  SK, PART S5. Bytes to text; what operations look at; all operations.
-/
import Derived.Test.YtmncnjolillclaaGreatDoorS07
import Derived.Laws.BytesString
import Derived.RowKit3
namespace Go.Sk
variable {P : Program} {cx : Cx} {G : Nat} {ρ : Nat → Int} {T : TT}

/-- The functions without a body. -/
def ExtOk (P : Program) (cx : Cx) : Prop := ∀ f k, cx.ext f = some k → ∀ (ρ : Nat → Int) (Φ : Emb) (args : List V) (xs : Array Value) (v : V) (w : World), VRs ρ Φ args xs.toList → extV k args = some v →
  ∃ x, (callFunc f xs).run P w = .ok (.value x) w ∧ VR ρ Φ v x
theorem ext_ok (hX : ExtOk P cx) {c : Call} {f : Nat} {k : ExtK} {l : List Opd} (hc : c.callee = .value (.func f)) (hk : cx.ext f = some k) (hl : opds c.args.toList = some l) :
    PureOk P cx G ρ (.call c) (oExt k l) := by
  intro oper ho Φ H w env a v R hE hv
  unfold oExt at hv
  split at hv
  · rename_i vs he
    have r := evals_ok hE hl he
    obtain ⟨x, h1, h2⟩ := hX f k hk ρ Φ vs (c.args.map a.eval) v w (by rw [map_toList]; exact r) hv
    refine ⟨x, ?_, h2⟩
    simp [execOp, ho, resolve, hc, Act.eval, Deferred.ofValue, invoke, h1]
  · cases hv

/-! ### What operations look at -/
def Agree (env env' : Env) (x : Operand) : Prop := ∀ t, x = .tmp t → env.get t = env'.get t
theorem eval_congr {env env' : Env} {x : Operand} {y : Opd} (h : opd x = some y) (ha : Agree env env' x) : eval env y = eval env' y := by
  cases x with
  | tmp t => simp [opd] at h; subst h; exact ha t rfl
  | const v => simp [opd] at h; obtain ⟨u, _, rfl⟩ := h; rfl
  | global g => simp [opd] at h; subst h; rfl
  | func f => simp [opd] at h; subst h; rfl
theorem evals_congr {env env' : Env} : ∀ {xs : List Operand} {ys : List Opd}, opds xs = some ys → (∀ x ∈ xs, Agree env env' x) → evals env ys = evals env' ys
  | [], ys, h, _ => by simp [opds] at h; subst h; rfl
  | x :: xs, ys, h, ha => by
    simp only [opds] at h
    split at h
    · rename_i y ys' h1 h2
      simp at h; subst h
      simp only [evals]
      rw [eval_congr h1 (ha x (by simp)), evals_congr h2 (fun z hz => ha z (by simp [hz]))]
    · cases h
theorem fill_congr {env env' : Env} {place : Nat → Option (Nat × Nat)} : ∀ {xs : List (Nat × Operand)} {ys : List (Nat × Nat × Opd)}, partsOf place xs = some ys → (∀ x ∈ xs.map (·.2), Agree env env' x) →
    ∀ cs, fillParts env cs ys = fillParts env' cs ys
  | [], ys, h, _, cs => by simp [partsOf] at h; subst h; rfl
  | (i, x) :: xs, ys, h, ha, cs => by
    simp only [partsOf] at h
    split at h
    · rename_i off sz y ys' h0 h1 h2
      simp at h; subst h
      simp only [fillParts]
      rw [eval_congr h1 (ha x (by simp))]
      cases eval env' y with
      | none => rfl
      | some v => simp only; rw [fill_congr h2 (fun z hz => ha z (by simp at hz ⊢; exact .inr hz))]
    · cases h
theorem optNat_congr {env env' : Env} {x : Option Operand} {y : Option Opd} (h : opdOpt x = some y) (ha : ∀ z, x = some z → Agree env env' z) : optNat env y = optNat env' y := by
  cases x with
  | none => simp [opdOpt] at h; subst h; rfl
  | some x =>
    simp [opdOpt] at h
    obtain ⟨z, hz, rfl⟩ := h
    simp only [optNat]
    rw [eval_congr hz (ha x rfl)]
theorem natOf_congr {env env' : Env} {x : Operand} {y : Opd} (h : opd x = some y) (ha : Agree env env' x) : natOf env y = natOf env' y := by
  simp only [natOf]; rw [eval_congr h ha]

theorem agree_of {env env' : Env} {o : Op} (h : ∀ t ∈ opTmps o, env.get t = env'.get t) : ∀ x ∈ o.operands.toList, Agree env env' x := by
  intro x hx t ht
  subst ht
  exact h t (List.mem_filterMap.2 ⟨.tmp t, hx, rfl⟩)
end Go.Sk

/-
  SK, PART S6. All operations.
-/
namespace Go.Sk
variable {P : Program} {cx : Cx} {G : Nat} {ρ : Nat → Int} {T : TT}

theorem bytesOf_ok {Φ : Emb} : ∀ {l : List V} {xs : List Value} {bs : List Nat}, VRs ρ Φ l xs → bytesOf l = some bs → xs = (bs.map Int.ofNat).map (Value.int .u8) ∧ ∀ b ∈ bs, b ≤ 255
  | [], xs, bs, h, hb => by cases h; simp [bytesOf] at hb; subst hb; simp
  | v :: l, xs, bs, h, hb => by
    unfold bytesOf at hb
    split at hb
    · rename_i heq; cases heq
    · rename_i b l' heq
      simp only [List.cons.injEq] at heq
      obtain ⟨rfl, rfl⟩ := heq
      split at hb
      · rename_i r hr
        simp only [nble, bif_ite] at hb
        split at hb
        · rename_i hle
          simp at hb; subst hb
          cases h with
          | cons h1 h2 =>
            obtain ⟨k1, k2⟩ := bytesOf_ok h2 hr
            cases h1
            refine ⟨by simp [k1, IE.ev], ?_⟩
            intro b' hb'
            rcases List.mem_cons.1 hb' with rfl | hb'
            · exact hle
            · exact k2 b' hb'
        · cases hb
      · cases hb
    · cases hb
theorem foldl_push : ∀ (bs : List Nat) (s : ByteArray), (∀ b ∈ bs, b ≤ 255) →
    ((bs.map Int.ofNat).foldl (fun r n => r.push (UInt8.ofNat n.toNat)) s).data.toList.map UInt8.toNat = s.data.toList.map UInt8.toNat ++ bs
  | [], s, _ => by simp
  | b :: bs, s, h => by
    have hb := h b (by simp)
    simp only [List.map_cons, List.foldl_cons]
    rw [foldl_push bs _ (fun b hb => h b (by simp [hb]))]
    simp [ByteArray.push]
    omega

theorem b2s_ok (hT : TTok P T) {s d e : Nat} {x : Operand} {y : Opd} (h : opd x = some y) (hs : T.und s = some (.slice e)) (he : T.und e = some (.int .u8)) (hd : T.und d = some .string) :
    ReadOk P cx G ρ (.convert s d x) (oB2s y) := by
  intro oper ho Φ H w env a v R hE hv
  unfold oB2s at hv
  split at hv
  · rename_i u hu
    have r := eval_ok hE h hu
    generalize hX : a.eval x = X at *
    have hconv : ∀ b l c, (convert s d (.slice b l c)).run P w = (Conv.bytesToString (.slice b l c)).run P w := fun b l c => run_convert_bytes_string w s d e b l c (und_ok hT hs) (und_ok hT he) (und_ok hT hd)
    unfold b2sV at hv
    split at hv
    · simp at hv; subst hv
      cases r
      refine ⟨.string .empty, ?_, .str ByteArray.empty⟩
      simp [execOp, ho, hX, hconv, Conv.bytesToString]
    · simp only [nbeq, bif_ite] at hv
      split at hv
      · rename_i ad len sz hsz
        subst hsz
        split at hv
        · rename_i l hl
          split at hv
          · rename_i bs hbs
            simp at hv; subst hv
            have fin : ∀ (b : Addr) cap, (loadCells b len).run P w = .ok ((bs.map Int.ofNat).map (Value.int .u8)).toArray w → (∀ b ∈ bs, b ≤ 255) → X = .slice (some b) len cap →
                ∃ y, (execOp a.eval oper).run P w = .ok (.value y) w ∧ VR ρ Φ (.str bs) y := by
              intro b cap h1 h2 h3
              refine ⟨_, by simp only [execOp, ho, hX, h3, Sem.run_bind, hconv, run_bytesToString w b len cap _ h1, Result.andThen_ok]; rfl, ?_⟩
              have := VR.str (ρ := ρ) (Φ := Φ) ((bs.map Int.ofNat).foldl (fun r n => r.push (UInt8.ofNat n.toNat)) ByteArray.empty)
              rw [foldl_push bs _ h2] at this
              simpa using this
            cases r with
            | @slice _ b _ cap _ L hab hL hlen hroom =>
              obtain ⟨xs, g1, g2, g3, g4⟩ := R.cellsAt hl hab
              obtain ⟨k1, k2⟩ := bytesOf_ok g2 hbs
              have := run_loadCells_n (P := P) g1 g4
              rw [k1] at this
              exact fin b cap this k2 rfl
            | slice0 _ b _ =>
              have hl0 : l = [] := by
                unfold Heap.cellsAt at hl
                split at hl
                · cases hb : Nat.ble _ _ <;> rw [hb] at hl <;> simp [Fam.cellsAt] at hl
                  exact hl
                · cases hl
              subst hl0
              simp [bytesOf] at hbs
              subst hbs
              exact fin b 0 (by simp [loadCells, loadCellsFrom]) (by simp) rfl
          · cases hv
        · cases hv
      · cases hv
    · cases hv
  · cases hv
end Go.Sk

/-
  SK, PART S7. The table of operations is sound.
-/
namespace Go.Sk
variable {P : Program} {cx : Cx} {G : Nat} {ρ : Nat → Int} {T : TT}

theorem rise_same {r : Env → Heap → Option (V × Heap)} (h : ∀ env H v H', r env H = some (v, H') → H'.next = H.next ∨ H'.next = H.next + 1) : Rising r := fun env H v H' hh => by
  rcases h env H v H' hh with h | h <;> omega
theorem write_next {H H' : Heap} {a : DA} {l : List V} (h : H.write a l = some H') : H'.next = H.next := by
  unfold Heap.write at h
  split at h
  · cases hb : (Nat.beq a.ep _ && Nat.ble (a.off + l.length) _ && Nat.blt 0 l.length) <;> rw [hb] at h <;> simp at h
    rw [← h]; rfl
  · cases h
theorem store_rise {n : Nat} {x y : Opd} : Rising (oStore n x y) := rise_same fun env H v H' h => by
  unfold oStore at h
  split at h
  · split at h
    · cases h
    · rename_i u hu
      cases hc : (Nat.beq u.cells.length n && allFlat u.cells) <;> rw [hc] at h
      · cases h
      · simp only [cond_true] at h
        exact .inl (write_next (done_some h).1)
  · cases h
theorem append_rise {sz bytes : Nat} {x y : Opd} : Rising (oAppend sz bytes x y) := rise_same fun env H v H' h => by
  unfold oAppend at h
  split at h
  · cases h
  · split at h
    · cases h
    · split at h
      · cases h
      · unfold appendV at h
        split at h
        · simp only [nbeq, nble, bif_ite] at h
          split at h
          · simp at h; rw [h.2]; exact .inl rfl
          · split at h
            · simp at h; rw [← h.2]; exact .inr rfl
            · cases h
        · simp only [nbeq, nble, ← Bool.decide_and, bif_ite] at h
          split at h
          · simp at h; rw [h.2]; exact .inl rfl
          · split at h
            · unfold growV at h
              split at h
              · simp only [nbeq, nble, ← Bool.decide_and, bif_ite] at h
                split at h
                · simp at h; rw [← h.2]; exact .inl rfl
                · cases h
              · cases h
            · cases h
        · cases h
theorem copy_rise {n : Nat} {x y : Opd} : Rising (oCopy n x y) := rise_same fun env H v H' h => by
  unfold oCopy at h
  split at h
  · cases h
  · split at h
    · cases h
    · unfold copyV at h
      split at h
      · split at h
        · simp only [nbeq, bif_ite] at h
          split at h
          · simp at h; rw [h.2]; exact .inl rfl
          · split at h
            · cases h
            · split at h
              · cases h
              · split at h
                · cases h
                · split at h
                  · cases h
                  · rename_i hw
                    simp at h; rw [← h.2]; exact .inl (write_next hw)
        · cases h
      · cases h
theorem clear_rise {z : List V} {x : Opd} : Rising (oClear z x) := rise_same fun env H v H' h => by
  unfold oClear at h
  split at h
  · simp at h; rw [h.2]; exact .inl rfl
  · simp only [nbeq, bif_ite] at h
    split at h
    · simp at h; rw [h.2]; exact .inl rfl
    · exact .inl (write_next (done_some h).1)
  · cases h
theorem mapUpdate_rise {kk : KK} {m k x : Opd} : Rising (oMapUpdate cx kk m k x) := rise_same fun env H v H' h => by
  unfold oMapUpdate at h
  split at h
  · cases h
  · split at h
    · cases h
    · split at h
      · cases h
      · cases hn : kk.isNo _ <;> rw [hn] at h
        · simp only [cond_false] at h
          have hd := (done_some h).1
          unfold updateV at hd
          split at hd
          · split at hd
            · split at hd
              · cases hd
              · simp at hd; rw [← hd]; exact .inl rfl
              · simp at hd; rw [← hd]; exact .inl rfl
            · cases hd
          · cases hd
        · cases h
theorem range_rise {x : Opd} : Rising (oRange x) := rise_same fun env H v H' h => by
  unfold oRange at h
  split at h
  · simp at h; rw [← h.2]; exact .inr rfl
  · split at h
    · simp at h; rw [← h.2]; exact .inr rfl
    · cases h
  · cases h
theorem next_rise {x : Opd} : Rising (oNext x) := rise_same fun env H v H' h => by
  unfold oNext at h
  split at h
  · unfold nextV at h
    split at h
    · split at h
      · simp at h; rw [h.2]; exact .inl rfl
      · split at h
        · rename_i m since seen last _ _ es clock _
          cases hc : (Nat.beq last clock && !(!seen.isEmpty && !es.isEmpty && es.all fun e => Nat.ble last e.2.2)) <;> rw [hc] at h
          · cases h
          · simp only [cond_true] at h
            split at h
            · simp at h; rw [h.2]; exact .inl rfl
            · simp only [nblt, bif_ite] at h
              split at h
              · simp at h; rw [← h.2]; exact .inl rfl
              · cases h
            · cases h
        · cases h
      · cases h
    · cases h
  · cases h
theorem entry_rise {x : Opd} : Rising (oEntry x) := rise_same fun env H v H' h => by
  unfold oEntry at h
  split at h
  · split at h
    · simp at h; rw [h.2]; exact .inl rfl
    · cases h
  · cases h

/-- Calls: of functions, and of those that are built in. -/
theorem call1_ok (hT : TTok P T) (hM : MethOk P cx) (hX : ExtOk P cx) {c : Call} {sk : SK} (h : call1 T cx c = some sk) : SkOk P cx G ρ (.call c) sk ∧ SkCongr sk (opTmps (.call c)) := by
  have agA : ∀ {env env' : Env}, (∀ t ∈ opTmps (.call c), env.get t = env'.get t) → ∀ x ∈ c.args.toList, Agree env env' x := fun hh x hx => agree_of hh x (by simp only [Op.operands, Call.operands, Array.toList_append]; exact List.mem_append_right _ hx)
  unfold call1 at h
  split at h
  · rename_i f hc
    split at h
    · cases h
    · rename_i l hl
      split at h
      · rename_i k hk
        simp at h; subst h
        refine ⟨ext_ok hX hc hk hl, fun env env' hh => ?_⟩
        show oExt k l env = oExt k l env'
        simp only [oExt, evals_congr hl (agA hh)]
      · simp at h; subst h
        refine ⟨call_ok hc hl, fun env env' hh => ?_⟩
        show oCall f l env = oCall f l env'
        simp only [oCall, evals_congr hl (agA hh)]
  · rename_i x hne hc
    split at h
    · rename_i x' l hx hl
      simp at h; subst h
      refine ⟨callv_ok hM hc hx hl, fun env env' hh => ?_⟩
      show oCallv cx x' l env = oCallv cx x' l env'
      simp only [oCallv, evals_congr hl (agA hh), eval_congr hx (agree_of hh x (by simp [Op.operands, Call.operands, hc]))]
    · cases h
  · rename_i x m hc
    split at h
    · rename_i x' l hx hl
      simp at h; subst h
      refine ⟨invoke_ok hM hc hx hl, fun env env' hh => ?_⟩
      show oInvoke cx x' m l env = oInvoke cx x' m l env'
      simp only [oInvoke, evals_congr hl (agA hh), eval_congr hx (agree_of hh x (by simp [Op.operands, Call.operands, hc]))]
    · cases h
  · rename_i b hc
    split at h
    · rename_i x t ha hat
      split at h
      · rename_i hu
        simp only [Option.map_eq_some_iff] at h
        obtain ⟨y, hy, rfl⟩ := h
        refine ⟨lenT_ok hT hc ha hat hu hy, fun env env' hh => ?_⟩
        show oLenT y env = oLenT y env'
        simp only [oLenT, eval_congr hy (agA hh x (by rw [ha]; simp))]
      · rename_i e hu
        simp only [Option.map_eq_some_iff] at h
        obtain ⟨y, hy, rfl⟩ := h
        refine ⟨lenS_ok hT hc ha hat hu hy, fun env env' hh => ?_⟩
        show oLenS y env = oLenS y env'
        simp only [oLenS, eval_congr hy (agA hh x (by rw [ha]; simp))]
      · rename_i k e hu
        simp only [Option.map_eq_some_iff] at h
        obtain ⟨y, hy, rfl⟩ := h
        refine ⟨lenM_ok hT hc ha hat hu hy, fun env env' hh h => ?_⟩
        simp only [oLenM, eval_congr hy (agA hh x (by rw [ha]; simp))]
      · cases h
    · rename_i x l ha
      split at h
      · rename_i x' l' hx hl
        simp at h; subst h
        refine ⟨max_ok hc ha hx hl, fun env env' hh => ?_⟩
        show oMinMax true x' l' env = oMinMax true x' l' env'
        simp only [oMinMax, eval_congr hx (agA hh x (by rw [ha]; simp)), evals_congr hl (fun z hz => agA hh z (by rw [ha]; simp [hz]))]
      · cases h
    · rename_i x l ha
      split at h
      · rename_i x' l' hx hl
        simp at h; subst h
        refine ⟨min_ok hc ha hx hl, fun env env' hh => ?_⟩
        show oMinMax false x' l' env = oMinMax false x' l' env'
        simp only [oMinMax, eval_congr hx (agA hh x (by rw [ha]; simp)), evals_congr hl (fun z hz => agA hh z (by rw [ha]; simp [hz]))]
      · cases h
    · rename_i s x st xt ha hat
      split at h
      · rename_i e xd hst hxt
        split at h
        · cases h
        · rename_i hxd
          split at h
          · rename_i i z s' x' hi hz hs hx
            cases hb : (Nat.blt 0 i.bytes && Nat.blt 0 i.size && Nat.beq z.cells.length i.size) <;> rw [hb] at h
            · cases h
            · simp at h; subst h
              simp only [Bool.and_eq_true, nblt, nbeq, decide_eq_true_eq] at hb
              refine ⟨⟨append_ok hT hc ha hat hst hxt (fun k hk => hxd k hk) hi hz hb.2 hb.1.1 hb.1.2 hs hx, append_rise⟩, fun env env' hh h => ?_⟩
              simp only [oAppend, eval_congr hs (agA hh s (by rw [ha]; simp)), eval_congr hx (agA hh x (by rw [ha]; simp))]
          · cases h
      · cases h
    · rename_i d s dt st ha hat
      split at h
      · rename_i e hdt
        split at h
        · rename_i n d' s' hn hd hs
          cases hb : Nat.blt 0 n <;> rw [hb] at h
          · cases h
          · simp at h; subst h
            simp only [nblt, decide_eq_true_eq] at hb
            refine ⟨⟨copy_ok hT hc ha hat hdt hn hb hd hs, copy_rise⟩, fun env env' hh h => ?_⟩
            simp only [oCopy, eval_congr hd (agA hh d (by rw [ha]; simp)), eval_congr hs (agA hh s (by rw [ha]; simp))]
        · cases h
      · cases h
    · rename_i x t ha hat
      split at h
      · rename_i e hu
        split at h
        · rename_i n z x' hn hz hx
          cases hb : (Nat.blt 0 n && Nat.blt 0 z.cells.length && allFlat z.cells) <;> rw [hb] at h
          · cases h
          · simp at h; subst h
            simp only [Bool.and_eq_true, nblt, decide_eq_true_eq] at hb
            refine ⟨⟨clear_ok hT hc ha hat hu hz hb.1.2 hb.2 hx, clear_rise⟩, fun env env' hh h => ?_⟩
            simp only [oClear, eval_congr hx (agA hh x (by rw [ha]; simp))]
        · cases h
      · cases h
    · cases h
end Go.Sk

/-
  SK, PART S8. The table of operations is sound.
-/
namespace Go.Sk
variable {P : Program} {cx : Cx} {G : Nat} {ρ : Nat → Int} {T : TT}

theorem ops_ok (hT : TTok P T) (hM : MethOk P cx) (hX : ExtOk P cx) : OpsOk P cx G ρ T := by
  intro o sk h
  cases o with
  | move x =>
    simp only [compOp, Option.map_eq_some_iff] at h
    obtain ⟨y, hy, rfl⟩ := h
    refine ⟨move_ok hy, fun env env' hh => ?_⟩
    show oMove y env = oMove y env'
    simp only [oMove, eval_congr hy (agree_of hh x (by simp [Op.operands]))]
  | assign x =>
    simp only [compOp, Option.map_eq_some_iff] at h
    obtain ⟨y, hy, rfl⟩ := h
    refine ⟨assign_ok hy, fun env env' hh => ?_⟩
    show oMove y env = oMove y env'
    simp only [oMove, eval_congr hy (agree_of hh x (by simp [Op.operands]))]
  | pick c a b =>
    simp only [compOp] at h
    split at h
    · rename_i c' a' b' hc ha hb
      simp at h; subst h
      refine ⟨pick_ok hc ha hb, fun env env' hh => ?_⟩
      show oPick c' a' b' env = oPick c' a' b' env'
      simp only [oPick, eval_congr hc (agree_of hh c (by simp [Op.operands])), eval_congr ha (agree_of hh a (by simp [Op.operands])), eval_congr hb (agree_of hh b (by simp [Op.operands]))]
    · cases h
  | alloc e =>
    simp only [compOp] at h
    split at h
    · rename_i z n hz hn
      cases hb : (Nat.blt 0 n && Nat.beq z.cells.length n && allFlat z.cells) <;> rw [hb] at h
      · cases h
      · simp at h; subst h
        simp only [Bool.and_eq_true, nblt, nbeq, decide_eq_true_eq] at hb
        exact ⟨alloc_ok hT hz hn hb.1.2 hb.2, fun env env' hh n => rfl⟩
    · cases h
  | box e x =>
    simp only [compOp] at h
    split at h
    · rename_i n y hn hy
      cases hb : Nat.blt 0 n <;> rw [hb] at h
      · cases h
      · simp at h; subst h
        refine ⟨box_ok hT hn hy, fun env env' hh m => ?_⟩
        simp only [oBox, eval_congr hy (agree_of hh x (by simp [Op.operands]))]
    · cases h
  | build t ps =>
    simp only [compOp] at h
    split at h
    · rename_i fs z hu hz
      split at h
      · rename_i pl hpl
        split at h
        · rename_i qs hqs
          simp at h; subst h
          refine ⟨build_struct_ok hT hu hz hpl hqs, fun env env' hh => ?_⟩
          show oBuild z.cells qs env = oBuild z.cells qs env'
          simp only [oBuild, fill_congr hqs (fun x hx => agree_of hh x (by simpa [Op.operands] using hx))]
        · cases h
      · cases h
    · rename_i len e z hu hz
      split at h
      · rename_i n hn
        split at h
        · rename_i qs hqs
          simp at h; subst h
          refine ⟨build_array_ok hT hu hz hn hqs, fun env env' hh => ?_⟩
          show oBuild z.cells qs env = oBuild z.cells qs env'
          simp only [oBuild, fill_congr hqs (fun x hx => agree_of hh x (by simpa [Op.operands] using hx))]
        · cases h
      · cases h
    · cases h
  | buildSlice t len ps =>
    simp only [compOp] at h
    split at h
    · rename_i e hu
      split at h
      · rename_i n z hn hz
        cases hb : (Nat.blt 0 n && Nat.ble (len * n) 10000 && Nat.beq z.cells.length n && allFlat z.cells) <;> rw [hb] at h
        · cases h
        · simp only [cond_true] at h
          simp only [Bool.and_eq_true, nblt, nbeq, nble, decide_eq_true_eq] at hb
          split at h
          · rename_i qs hqs
            simp at h; subst h
            refine ⟨buildSlice_ok hT hu hn hz hb.1.1.1 hb.1.1.2 hb.1.2 hb.2 hqs, fun env env' hh m => ?_⟩
            simp only [oBuildSlice, fill_congr hqs (fun x hx => agree_of hh x (by simpa [Op.operands] using hx))]
          · cases h
      · cases h
    · cases h
  | load t x =>
    simp only [compOp] at h
    split at h
    · rename_i b n y hb hn hy
      cases hbn : (b || Nat.beq n 1) <;> rw [hbn] at h
      · cases h
      · simp at h; subst h
        refine ⟨load_ok hT hb hn hy, fun env env' hh m => ?_⟩
        simp only [oLoad, eval_congr hy (agree_of hh x (by simp [Op.operands]))]
    · cases h
  | store t x y =>
    simp only [compOp] at h
    split at h
    · rename_i n x' y' hn hx hy
      simp at h; subst h
      refine ⟨⟨store_ok hT hn hx hy, store_rise⟩, fun env env' hh m => ?_⟩
      simp only [oStore, eval_congr hx (agree_of hh x (by simp [Op.operands])), eval_congr hy (agree_of hh y (by simp [Op.operands]))]
    · cases h
  | nilCheck x =>
    simp only [compOp, Option.map_eq_some_iff] at h
    obtain ⟨y, hy, rfl⟩ := h
    refine ⟨nilCheck_ok hM hy, fun env env' hh => ?_⟩
    show oNilCheck cx y env = oNilCheck cx y env'
    simp only [oNilCheck, eval_congr hy (agree_of hh x (by simp [Op.operands]))]
  | binOp o t x y yt =>
    simp only [compOp] at h
    split at h
    · rename_i k x' y' hk hx hy
      simp at h; subst h
      refine ⟨bin_ok hT hx hy hk, fun env env' hh => ?_⟩
      show oBin cx o k _ x' y' env = oBin cx o k _ x' y' env'
      simp only [oBin, eval_congr hx (agree_of hh x (by simp [Op.operands])), eval_congr hy (agree_of hh y (by simp [Op.operands]))]
    · cases h
  | unOp o t x =>
    simp only [compOp, Option.map_eq_some_iff] at h
    obtain ⟨y, hy, rfl⟩ := h
    refine ⟨un_ok hy, fun env env' hh => ?_⟩
    show oUn o y env = oUn o y env'
    simp only [oUn, eval_congr hy (agree_of hh x (by simp [Op.operands]))]
  | convert s d x =>
    simp only [compOp] at h
    split at h
    · rename_i k' k hs hd
      simp only [Option.map_eq_some_iff] at h
      obtain ⟨y, hy, rfl⟩ := h
      refine ⟨cvt_ok hT hy hs hd, fun env env' hh => ?_⟩
      show oCvt k y env = oCvt k y env'
      simp only [oCvt, eval_congr hy (agree_of hh x (by simp [Op.operands]))]
    · rename_i e hs hd
      split at h
      · rename_i he
        simp only [Option.map_eq_some_iff] at h
        obtain ⟨y, hy, rfl⟩ := h
        refine ⟨b2s_ok hT hy hs he hd, fun env env' hh m => ?_⟩
        simp only [oB2s, eval_congr hy (agree_of hh x (by simp [Op.operands]))]
      · cases h
    · cases h
  | makeInterface t x =>
    simp only [compOp] at h
    split at h
    · cases h
    · rename_i d hd hn
      simp only [Option.map_eq_some_iff] at h
      obtain ⟨y, hy, rfl⟩ := h
      refine ⟨mkIface_ok hT hy hn (fun ms hm => hd ms hm), fun env env' hh => ?_⟩
      show oMkIface t y env = oMkIface t y env'
      simp only [oMkIface, eval_congr hy (agree_of hh x (by simp [Op.operands]))]
    · cases h
  | makeFunc fn a b =>
    simp only [compOp] at h
    split at h
    · rename_i a' b' ha hb
      simp at h; subst h
      refine ⟨mkFunc_ok ha hb, fun env env' hh => ?_⟩
      show oMkFunc fn a' b' env = oMkFunc fn a' b' env'
      simp only [oMkFunc, evals_congr ha (fun x hx => agree_of hh x (by simp [Op.operands]; exact .inl (by simpa using hx))), evals_congr hb (fun x hx => agree_of hh x (by simp [Op.operands]; exact .inr (by simpa using hx)))]
    · cases h
  | makeMap t r =>
    cases r with
    | none => simp [compOp] at h; subst h; exact ⟨mkMap_ok, fun env env' hh n => rfl⟩
    | some r => simp [compOp] at h
  | makeSlice t l c =>
    simp only [compOp] at h
    split at h
    · rename_i e hu
      split at h
      · rename_i i z l' c' hi hz hl hc
        cases hb : (Nat.blt 0 i.size && Nat.ble i.bytes 1000000 && Nat.beq z.cells.length i.size && allFlat z.cells) <;> rw [hb] at h
        · cases h
        · simp at h; subst h
          simp only [Bool.and_eq_true, nblt, nbeq, nble, decide_eq_true_eq] at hb
          refine ⟨mkSlice_ok hT hu hi hz hl hc hb.1.1.1 hb.1.2 hb.2, fun env env' hh m => ?_⟩
          simp only [oMkSlice, natOf_congr hl (agree_of hh l (by simp [Op.operands])), natOf_congr hc (agree_of hh c (by simp [Op.operands]))]
      · cases h
    · cases h
  | slice t x lo hi mx =>
    cases mx with
    | some m => simp [compOp] at h
    | none =>
      simp only [compOp] at h
      split at h
      · rename_i e hu
        split at h
        · rename_i n x' lo' hi' hn hx hl hh'
          cases hb : Nat.blt 0 n <;> rw [hb] at h
          · cases h
          · simp at h; subst h
            refine ⟨sliceS_ok hT hu hn hx hl hh', fun env env' hh => ?_⟩
            show oSliceS n x' lo' hi' env = oSliceS n x' lo' hi' env'
            simp only [oSliceS, eval_congr hx (agree_of hh x (by simp [Op.operands])), optNat_congr hl (fun z hz => agree_of hh z (by subst hz; simp [Op.operands])), optNat_congr hh' (fun z hz => agree_of hh z (by subst hz; simp [Op.operands]))]
        · cases h
      · rename_i hu
        split at h
        · rename_i x' lo' hi' hx hl hh'
          simp at h; subst h
          refine ⟨sliceT_ok hT hu hx hl hh', fun env env' hh => ?_⟩
          show oSliceT x' lo' hi' env = oSliceT x' lo' hi' env'
          simp only [oSliceT, eval_congr hx (agree_of hh x (by simp [Op.operands])), optNat_congr hl (fun z hz => agree_of hh z (by subst hz; simp [Op.operands])), optNat_congr hh' (fun z hz => agree_of hh z (by subst hz; simp [Op.operands]))]
        · cases h
      · cases h
  | fieldAddr s x f =>
    simp only [compOp] at h
    split at h
    · rename_i fs hu
      split at h
      · rename_i fd hf
        split at h
        · rename_i n y hn hy
          cases hb : Nat.blt 0 n <;> rw [hb] at h
          · cases h
          · simp at h; subst h
            simp only [nblt, decide_eq_true_eq] at hb
            refine ⟨fieldAddr_ok hT hu hf hn (by omega) hy, fun env env' hh => ?_⟩
            show oFieldAddr fd.offset y env = oFieldAddr fd.offset y env'
            simp only [oFieldAddr, eval_congr hy (agree_of hh x (by simp [Op.operands]))]
        · cases h
      · cases h
    · cases h
  | field s x f =>
    simp only [compOp] at h
    split at h
    · rename_i fs hu
      split at h
      · rename_i fd hf
        split at h
        · rename_i b n y hb hn hy
          simp at h; subst h
          refine ⟨field_ok hT hu hf hn hb hy, fun env env' hh => ?_⟩
          show oField b fd.offset n y env = oField b fd.offset n y env'
          simp only [oField, eval_congr hy (agree_of hh x (by simp [Op.operands]))]
        · cases h
      · cases h
    · cases h
  | indexAddr t x i =>
    simp only [compOp] at h
    split at h
    · rename_i e hu
      split at h
      · rename_i n x' i' hn hx hi
        cases hb : Nat.blt 0 n <;> rw [hb] at h
        · cases h
        · simp at h; subst h
          refine ⟨indexAddr_slice_ok hT hu hn hx hi, fun env env' hh => ?_⟩
          show oIndexAddr none n x' i' env = oIndexAddr none n x' i' env'
          simp only [oIndexAddr, eval_congr hx (agree_of hh x (by simp [Op.operands])), natOf_congr hi (agree_of hh i (by simp [Op.operands]))]
      · cases h
    · rename_i len e hu
      split at h
      · rename_i n x' i' hn hx hi
        cases hb : Nat.blt 0 n <;> rw [hb] at h
        · cases h
        · simp at h; subst h
          refine ⟨indexAddr_array_ok hT hu hn hx hi, fun env env' hh => ?_⟩
          show oIndexAddr (some len) n x' i' env = oIndexAddr (some len) n x' i' env'
          simp only [oIndexAddr, eval_congr hx (agree_of hh x (by simp [Op.operands])), natOf_congr hi (agree_of hh i (by simp [Op.operands]))]
      · cases h
    · cases h
  | index t x i =>
    simp only [compOp] at h
    split at h
    · rename_i hu
      split at h
      · rename_i x' i' hx hi
        simp at h; subst h
        refine ⟨indexT_ok hT hu hx hi, fun env env' hh => ?_⟩
        show oIndexT x' i' env = oIndexT x' i' env'
        simp only [oIndexT, eval_congr hx (agree_of hh x (by simp [Op.operands])), natOf_congr hi (agree_of hh i (by simp [Op.operands]))]
      · cases h
    · cases h
  | lookup t x i ok =>
    simp only [compOp] at h
    split at h
    · rename_i k e hu
      split at h
      · rename_i z x' i' hz hx hi
        simp at h; subst h
        refine ⟨lookup_ok hT hu hz hx hi, fun env env' hh m => ?_⟩
        simp only [oLookup, eval_congr hx (agree_of hh x (by simp [Op.operands])), eval_congr hi (agree_of hh i (by simp [Op.operands]))]
      · cases h
    · cases h
  | mapUpdate t m k x =>
    simp only [compOp] at h
    split at h
    · rename_i kt e hu
      split at h
      · rename_i m' k' x' hm hk hx
        simp at h; subst h
        refine ⟨⟨mapUpdate_ok hT hu hm hk hx, mapUpdate_rise⟩, fun env env' hh q => ?_⟩
        simp only [oMapUpdate, eval_congr hm (agree_of hh m (by simp [Op.operands])), eval_congr hk (agree_of hh k (by simp [Op.operands])), eval_congr hx (agree_of hh x (by simp [Op.operands]))]
      · cases h
    · cases h
  | extract x i =>
    simp only [compOp, Option.map_eq_some_iff] at h
    obtain ⟨y, hy, rfl⟩ := h
    refine ⟨extract_ok hy, fun env env' hh => ?_⟩
    show oExtract y i env = oExtract y i env'
    simp only [oExtract, eval_congr hy (agree_of hh x (by simp [Op.operands]))]
  | range t x =>
    simp only [compOp] at h
    split at h
    · rename_i k e hu
      simp only [Option.map_eq_some_iff] at h
      obtain ⟨y, hy, rfl⟩ := h
      refine ⟨⟨range_ok hT hu hy, range_rise⟩, fun env env' hh m => ?_⟩
      simp only [oRange, eval_congr hy (agree_of hh x (by simp [Op.operands]))]
    · cases h
  | next x s =>
    cases s with
    | true => simp [compOp] at h
    | false =>
      simp only [compOp, Option.map_eq_some_iff] at h
      obtain ⟨y, hy, rfl⟩ := h
      refine ⟨⟨next_ok hy, next_rise⟩, fun env env' hh m => ?_⟩
      simp only [oNext, eval_congr hy (agree_of hh x (by simp [Op.operands]))]
  | entry x =>
    simp only [compOp, Option.map_eq_some_iff] at h
    obtain ⟨y, hy, rfl⟩ := h
    refine ⟨⟨entry_ok hy, entry_rise⟩, fun env env' hh m => ?_⟩
    simp only [oEntry, eval_congr hy (agree_of hh x (by simp [Op.operands]))]
  | call c => exact call1_ok hT hM hX (by simpa [compOp] using h)
  | _ => simp [compOp] at h
end Go.Sk

/-
  SK, PART S9. A run of the abstract machine from nothing is a run of the program.
-/
namespace Go.Sk
variable {P : Program} {cx : Cx} {ρ : Nat → Int} {T : TT}

def none0 : Emb := fun _ _ => none
def heap0 : Heap := ⟨0, .nil⟩

theorem rel0 {W : World} (hglob : ∀ g o v, cx.glob g o = some v → ∃ x, W.cell? ⟨g, o, none⟩ = some x ∧ VR ρ none0 v x) (hasm : ∀ o a b r, (o, a, b, r) ∈ cx.asm → cmpInt o (a.ev ρ) (b.ev ρ) = r) :
    Rel cx W.heap.size ρ none0 heap0 W where
  obj := fun f o h => by simp [heap0, Tr.get_nil] at h
  inj := fun f e l f' e' l' h => by simp [none0] at h
  dom := fun f e l h => by simp [none0] at h
  glob := fun g o v h => by
    obtain ⟨x, h1, h2⟩ := hglob g o v h
    refine ⟨?_, x, h1, h2⟩
    rcases Nat.lt_or_ge g W.heap.size with h3 | h3
    · exact h3
    · simp [World.cell?, Array.getElem?_eq_none h3] at h1
  asm := hasm
  old := fun f o h => by simp [heap0, Tr.get_nil] at h
  sz := Nat.le_refl _
  kind := fun f e l h => by simp [none0] at h

/-- A world that has grown: what lay there lies there as it was; what came anew, and the draws, may be anything. -/
structure Grew (W W' : World) : Prop extends Same W W' where
  old : ∀ b, b < W.heap.size → W'.heap[b]? = W.heap[b]?

theorem sim (hm : P.follows .mixedOrders = true) (hT : TTok P T) (hM : MethOk P cx) (hX : ExtOk P cx) {orc : Orc} (hOrc : ∀ G, OrcOk P cx G ρ orc) {fns : Nat → Option DFn} (hf : FnsOk P cx T fns) {W : World}
    (hglob : ∀ g o v, cx.glob g o = some v → ∃ x, W.cell? ⟨g, o, none⟩ = some x ∧ VR ρ none0 v x) (hasm : ∀ o a b r, (o, a, b, r) ∈ cx.asm → cmpInt o (a.ev ρ) (b.ev ρ) = r)
    {n f : Nat} {args : List V} {v : V} {h' : Heap} (hv : callN cx orc fns n f args heap0 = some (v, h')) {xs : Array Value} (hx : VRs ρ none0 args xs.toList) :
    Calls P f xs W (fun e W' => ∃ x Φ', e = .returned x ∧ VR ρ Φ' v x ∧ Grew W W') := by
  have hrec := callN_ok (G := W.heap.size) (ρ := ρ) (hOrc _) (ops_ok hT hM hX) hm hT hf n
  obtain ⟨_, _, h⟩ := hrec f args heap0 v h' hv
  refine (h none0 W xs (rel0 hglob hasm) hx (fun _ _ _ _ => rfl)).mono ?_
  rintro e W' ⟨x, Φ', h1, h2, h3, h4⟩
  refine ⟨x, Φ', h1, h2, ⟨h4.same, fun b hb => h4.frame b hb ?_⟩⟩
  rintro ⟨f, e, l, _, hl, _⟩
  simp [none0] at hl

/-- For a run that ends with a truth. -/
theorem sim_bool (hm : P.follows .mixedOrders = true) (hT : TTok P T) (hM : MethOk P cx) (hX : ExtOk P cx) {orc : Orc} (hOrc : ∀ G, OrcOk P cx G ρ orc) {fns : Nat → Option DFn} (hf : FnsOk P cx T fns) {W : World}
    (hglob : ∀ g o v, cx.glob g o = some v → ∃ x, W.cell? ⟨g, o, none⟩ = some x ∧ VR ρ none0 v x) (hasm : ∀ o a b r, (o, a, b, r) ∈ cx.asm → cmpInt o (a.ev ρ) (b.ev ρ) = r)
    {n f : Nat} {args : List V} {r : Bool} {h' : Heap} (hv : callN cx orc fns n f args heap0 = some (.bool r, h')) {xs : Array Value} (hx : VRs ρ none0 args xs.toList) :
    Calls P f xs W (fun e W' => e = .returned (.bool r) ∧ Grew W W') := by
  refine (sim hm hT hM hX hOrc hf hglob hasm hv hx).mono ?_
  rintro e W' ⟨x, Φ', rfl, h2, h3⟩
  cases h2
  exact ⟨rfl, h3⟩
end Go.Sk

/-
  SK, PART U. A call whose arguments hold no places, and whose answer is a value without places or a row of such: run from nothing, it may stand for itself anywhere.
-/
namespace Go.Sk
variable {P : Program} {cx : Cx} {ρ : Nat → Int} {T : TT}

def allBare : List V → Bool
  | [] => true
  | v :: l => v.bare && allBare l
theorem VR.bare {Φ Ψ : Emb} {v : V} {x : Value} (h : VR ρ Φ v x) (hb : v.bare = true) : VR ρ Ψ v x := by
  cases h with
  | bool b => exact .bool b
  | int k e => exact .int k e
  | str s => exact .str s
  | _ => cases hb
theorem VRs.bare {Φ Ψ : Emb} : ∀ {l : List V} {xs : List Value}, VRs ρ Φ l xs → allBare l = true → VRs ρ Ψ l xs
  | [], _, h, _ => by cases h; exact .nil
  | v :: l, _, h, hb => by
    cases h with
    | cons h1 h2 =>
      simp only [allBare, Bool.and_eq_true] at hb
      exact .cons (h1.bare hb.1) (h2.bare hb.2)
theorem allBare_get : ∀ {l : List V} {i : Nat} {v : V}, allBare l = true → l[i]? = some v → v.bare = true
  | [], i, v, _, h => by simp at h
  | u :: l, i, v, hb, h => by
    simp only [allBare, Bool.and_eq_true] at hb
    cases i with
    | zero => simp at h; subst h; exact hb.1
    | succ i => exact allBare_get hb.2 (by simpa using h)

/-- Two literals without places. -/
def argEq : V → V → Bool
  | .bool a, .bool b => a == b
  | .int k (.lit m), .int k' (.lit n) => decide (k = k') && ieq m n
  | .str a, .str b => strEq a b
  | _, _ => false
def argsEq : List V → List V → Bool
  | [], [] => true
  | a :: x, b :: y => argEq a b && argsEq x y
  | _, _ => false
theorem ieq_of {a b : Int} (h : ieq a b = true) : a = b := by
  unfold ieq at h
  split at h
  · rw [nbeq] at h; simp at h; rw [h]
  · rw [nbeq] at h; simp at h; rw [h]
  · cases h
theorem argEq_eq {a b : V} (h : argEq a b = true) : a = b ∧ a.bare = true := by
  unfold argEq at h
  split at h
  · simp at h; subst h; exact ⟨rfl, rfl⟩
  · simp only [Bool.and_eq_true, decide_eq_true_eq] at h
    obtain ⟨rfl, h⟩ := h
    rw [ieq_of h]; exact ⟨rfl, rfl⟩
  · rw [strEq_eq] at h
    simp at h; subst h; exact ⟨rfl, rfl⟩
  · cases h
theorem argsEq_eq : ∀ {a b : List V}, argsEq a b = true → a = b ∧ allBare a = true
  | [], [], _ => ⟨rfl, rfl⟩
  | a :: x, b :: y, h => by
    simp only [argsEq, Bool.and_eq_true] at h
    obtain ⟨h1, h2⟩ := argEq_eq h.1
    obtain ⟨h3, h4⟩ := argsEq_eq h.2
    rw [h1, h3]
    exact ⟨rfl, by rw [← h1, ← h3]; simp [allBare, h2, h4]⟩
  | [], _ :: _, h => by simp [argsEq] at h
  | _ :: _, [], h => by simp [argsEq] at h

/-- An answer that is known: a value without places, or a new row of such. -/
inductive Ans where
  | val (v : V)
  | row (cells : List V) (len sz : Nat)
noncomputable def give (a : Ans) (h : Heap) : V × Heap :=
  match a with
  | .val v => (v, h)
  | .row cells len sz => (.slice (some ⟨h.next, 0, 0⟩) len sz, h.new (.cells (famOf cells)))
noncomputable def tabHook : List (List V × Ans) → Hook
  | [], _, _, _ => none
  | (xs, a) :: l, rec, args, h => bif argsEq xs args then some (give a h) else tabHook l rec args h

/-- What an entry was made of. -/
def Known (cx : Cx) (orc : Orc) (fns : Nat → Option DFn) (f : Nat) (args : List V) : Ans → Prop
  | .val v => (∃ n h', callN cx orc fns n f args heap0 = some (v, h')) ∧ v.bare = true
  | .row cells len sz => (∃ n a h', callN cx orc fns n f args heap0 = some (.slice (some a) len sz, h') ∧ h'.cellsAt a (len * sz) = some cells) ∧ allBare cells = true ∧ 0 < len

/-- A world that has grown, and no more. -/
theorem Rel.grown {G : Nat} {Φ : Emb} {H : Heap} {w w' : World} (R : Rel cx G ρ Φ H w) (hs : Same w w') (hg : w.heap.size ≤ w'.heap.size) (h : ∀ b, b < w.heap.size → w'.heap[b]? = w.heap[b]?) :
    Rel cx G ρ Φ H w' ∧ Ext Φ H w Φ H w' := by
  refine ⟨⟨fun f o ho => (R.obj f o ho).keep (fun _ _ _ h => h) rfl fun e l hl => h _ (R.dom _ _ _ hl).1, R.inj, fun f e l hl => ⟨Nat.lt_of_lt_of_le (R.dom _ _ _ hl).1 hg, (R.dom _ _ _ hl).2⟩, fun g o v hv => ?_, R.asm, R.old, Nat.le_trans R.sz hg, fun f e l hl hr => ?_⟩, ⟨hs, fun _ _ _ h => h, fun _ _ => rfl, fun b hb _ => h b hb, hg, fun f e l h1 h2 => absurd (h1.symm.trans h2) (by simp), Nat.le_refl _, fun f h => .inl h⟩⟩
  · obtain ⟨h1, x, h2, h3⟩ := R.glob g o v hv
    exact ⟨h1, x, by rw [World.cell_of_heap (w := w)]; exact h2; exact h g (Nat.lt_of_lt_of_le h1 R.sz), h3⟩
  · obtain ⟨arr, t, k⟩ := R.kind f e l hl hr
    exact ⟨arr, t, (h _ (R.dom _ _ _ hl).1).trans k⟩

variable {cx0 : Cx} {T0 : TT}
theorem known_val (hm : P.follows .mixedOrders = true) (hT : TTok P T0) (hM : MethOk P cx0) (hX : ExtOk P cx0) (hgc : cx0.glob = cx.glob) (hac : ∀ e ∈ cx0.asm, e ∈ cx.asm) (hgb : ∀ g o v, cx.glob g o = some v → v.bare = true)
    {orc : Orc} (hOrc : ∀ G, OrcOk P cx0 G ρ orc) {fns : Nat → Option DFn} (hf : FnsOk P cx0 T0 fns) {f : Nat} {args : List V} {v : V} (hk : Known cx0 orc fns f args (.val v)) (hargs : allBare args = true) {G : Nat} {h : Heap} :
    RecAt P cx G ρ f args h v h := by
  obtain ⟨⟨n, h', hrun⟩, hbare⟩ := hk
  have hrec := fun G' => callN_ok (G := G') (ρ := ρ) (hOrc G') (ops_ok hT hM hX) hm hT hf n
  refine ⟨Nat.le_refl _, (hrec G f args heap0 _ h' hrun).2.1, fun Φ w xs R hA hfree => ?_⟩
  obtain ⟨_, _, hcall⟩ := hrec w.heap.size f args heap0 _ h' hrun
  have hR0 : Rel cx0 w.heap.size ρ none0 heap0 w := rel0 (fun g o v hg => by
    rw [hgc] at hg
    obtain ⟨_, x, h1, h2⟩ := R.glob g o v hg
    exact ⟨x, h1, h2.bare (hgb g o v hg)⟩) (fun o a b r he => R.asm o a b r (hac _ he))
  refine (hcall none0 w xs hR0 (hA.bare hargs) (fun _ _ _ _ => rfl)).mono ?_
  rintro e w' ⟨x, Φ1, rfl, hx, R1, X1⟩
  have hfr : ∀ b, b < w.heap.size → w'.heap[b]? = w.heap[b]? := fun b hb => X1.frame b hb (by rintro ⟨f, e, l, _, hl, _⟩; simp [none0] at hl)
  obtain ⟨q1, q2⟩ := R.grown X1.same X1.grow hfr
  exact ⟨x, Φ, rfl, hx.bare hbare, q1, q2⟩

theorem known_row (hm : P.follows .mixedOrders = true) (hT : TTok P T0) (hM : MethOk P cx0) (hX : ExtOk P cx0) (hgc : cx0.glob = cx.glob) (hac : ∀ e ∈ cx0.asm, e ∈ cx.asm) (hgb : ∀ g o v, cx.glob g o = some v → v.bare = true)
    {orc : Orc} (hOrc : ∀ G, OrcOk P cx0 G ρ orc) {fns : Nat → Option DFn} (hf : FnsOk P cx0 T0 fns) {f : Nat} {args cells : List V} {len sz : Nat} (hk : Known cx0 orc fns f args (.row cells len sz)) (hargs : allBare args = true) {G : Nat} {h : Heap} :
    RecAt P cx G ρ f args h (.slice (some ⟨h.next, 0, 0⟩) len sz) (h.new (.cells (famOf cells))) := by
  obtain ⟨⟨n, a, h', hrun, hcells⟩, hbare, hpos⟩ := hk
  have hrec := fun G' => callN_ok (G := G') (ρ := ρ) (hOrc G') (ops_ok hT hM hX) hm hT hf n
  refine ⟨by simp [Heap.new], (hrec G f args heap0 _ h' hrun).2.1, fun Φ w xs R hA hfree0 => ?_⟩
  have hfree : ∀ e, Φ h.next e = none := fun e => hfree0 _ e (Nat.le_refl _) (by simp [Heap.new])
  obtain ⟨_, _, hcall⟩ := hrec w.heap.size f args heap0 _ h' hrun
  have hR0 : Rel cx0 w.heap.size ρ none0 heap0 w := rel0 (fun g o v hg => by
    rw [hgc] at hg
    obtain ⟨_, x, h1, h2⟩ := R.glob g o v hg
    exact ⟨x, h1, h2.bare (hgb g o v hg)⟩) (fun o a b r he => R.asm o a b r (hac _ he))
  refine (hcall none0 w xs hR0 (hA.bare hargs) (fun _ _ _ _ => rfl)).mono ?_
  rintro e w' ⟨x, Φ1, rfl, hx, R1, X1⟩
  cases hx with
  | slice0 => omega
  | @slice _ b _ c _ l hab hl hn hroom =>
    obtain ⟨l2, hl2, hb1, hb2, hb3, hb4⟩ := hab
    rw [hl] at hl2
    obtain rfl : l = l2 := by simpa using hl2
    unfold Heap.cellsAt at hcells
    cases hm' : h'.fam a.fam with
    | none => rw [hm'] at hcells; cases hcells
    | some m =>
      rw [hm'] at hcells
      simp only [nble, bif_ite] at hcells
      split at hcells
      · rename_i hep
        obtain ⟨hclen, hcget⟩ := Fam.cellsAt_some hcells
        obtain ⟨_, _, _, h3⟩ := R1.obj _ _ (Heap.fam_some hm')
        obtain ⟨l3, hl3, hrow, arr, t, g1, g2, g3⟩ := h3 a.ep hep
        rw [hl] at hl3
        obtain rfl : l = l3 := by simpa using hl3
        obtain ⟨bb, bo, bs⟩ := b
        simp only at hb1 hb2 hb3 hroom
        subst hb1; subst hb3
        have hmul : len * sz ≤ c * sz := Nat.mul_le_mul_right _ hn
        have hdom := R1.dom _ _ _ hl
        have hcell : ∀ (p : Nat) v, cells[p]? = some v → ∃ y, arr[bo + p]? = some y ∧ VR ρ (Φ.set h.next 0 ⟨l.blk, l.sh + a.off, l.size, true⟩) v y ∧ y.oneCell' = true := by
          intro p v hp
          have hc := hcget p v hp
          obtain ⟨q1, lo, q2, q3⟩ := Fam.cell_some hc
          obtain ⟨y, r1, r2, r3⟩ := g3 (a.off + p) v lo q1 q2 q3 (bo + p) (by push_cast; omega)
          exact ⟨y, r1, r2.bare (allBare_get hbare hp), r3⟩
        have hfr : ∀ b, b < w.heap.size → w'.heap[b]? = w.heap[b]? := fun b hb => X1.frame b hb (by rintro ⟨f, e, l, _, hl, _⟩; simp [none0] at hl)
        have hfin := R.change' (Φ' := Φ.set h.next 0 ⟨l.blk, l.sh + a.off, l.size, true⟩) (H' := h.new (.cells (famOf cells))) (w' := w') (f := h.next) (o' := .cells (famOf cells)) rfl (by simp [Heap.new]) (by simp [Heap.new])
          (.inr (Nat.le_refl _)) (Emb.le_set _ (hfree 0)) (fun g hg => by funext d; exact Emb.set_other _ _ _ _ (fun h => hg h.1)) X1.grow (fun b hb _ => hfr b hb)
          (fun e l' h1 h2 => by
            by_cases he : e = 0
            · subst he
              rw [Emb.set_same] at h1
              simp only [Option.some.injEq] at h1
              subst h1
              exact .inl ⟨hdom.2, hdom.1, Nat.le_trans R.sz hdom.2⟩
            · rw [Emb.set_other _ _ _ _ (fun h => he h.2), h2] at h1; cases h1)
          (fun e l1 e' l2 h1 h2 _ => by
            have key : ∀ e l', Φ.set h.next 0 ⟨l.blk, l.sh + a.off, l.size, true⟩ h.next e = some l' → (⟨l.blk, l.sh + a.off, l.size, true⟩ : Loc) = l' := by
              intro e l' h
              by_cases he : e = 0
              · subst he; rw [Emb.set_same] at h; simpa using h
              · rw [Emb.set_other _ _ _ _ (fun h => he h.2), hfree e] at h; cases h
            rw [← key _ _ h1, ← key _ _ h2])
          (fun _ => hfree)
          (by
            refine ⟨?_, ?_, ?_, ?_⟩
            · intro e he
              rw [famOf_ep] at he
              rw [Emb.set_other _ _ _ _ (fun h => by omega)]; exact hfree e
            · intro p v lo hp hg
              rw [famOf_get] at hg
              rw [famOf_ep]
              cases hq : cells[p]? with
              | none => rw [hq] at hg; cases hg
              | some u => rw [hq] at hg; simp at hg; omega
            · intro l' hl' p hp q hq
              rw [famOf_ep, Emb.set_same] at hl'
              simp only [Option.some.injEq] at hl'
              subst hl'
              rw [famOf_size] at hp
              simp only at hq ⊢
              omega
            · intro e he
              rw [famOf_ep] at he
              obtain rfl : e = 0 := by omega
              refine ⟨_, Emb.set_same _ _ _ _, rfl, arr, t, g1, g2, fun p v lo hp hg _ q hq => ?_⟩
              rw [famOf_get] at hg
              cases hq' : cells[p]? with
              | none => rw [hq'] at hg; cases hg
              | some u =>
                rw [hq'] at hg
                simp at hg
                obtain ⟨rfl, rfl⟩ := hg
                simp only at hq
                obtain rfl : q = bo + p := by omega
                exact hcell p u hq')
          X1.same
        have hAR : AR (Φ.set h.next 0 ⟨l.blk, l.sh + a.off, l.size, true⟩) ⟨h.next, 0, 0⟩ ⟨l.blk, bo, none⟩ := ⟨_, Emb.set_same _ _ _ _, rfl, by show (bo : Int) = ((0 : Nat) : Int) + (l.sh + a.off); omega, rfl, rfl⟩
        exact ⟨_, Φ.set h.next 0 ⟨l.blk, l.sh + a.off, l.size, true⟩, rfl, .slice hAR (Emb.set_same _ _ _ _) hn hroom, hfin.1, hfin.2⟩
      · cases hcells

/-- A table of known answers. -/
theorem known_ok (hm : P.follows .mixedOrders = true) (hT : TTok P T0) (hM : MethOk P cx0) (hX : ExtOk P cx0) (hgc : cx0.glob = cx.glob) (hac : ∀ e ∈ cx0.asm, e ∈ cx.asm) (hgb : ∀ g o v, cx.glob g o = some v → v.bare = true)
    {orc : Orc} (hOrc : ∀ G, OrcOk P cx0 G ρ orc) {fns : Nat → Option DFn} (hf : FnsOk P cx0 T0 fns) {f : Nat} : ∀ {tab : List (List V × Ans)}, (∀ e ∈ tab, Known cx0 orc fns f e.1 e.2) →
    ∀ {G : Nat} {rec : Rec} {args : List V} {h : Heap} {v : V} {h' : Heap}, tabHook tab rec args h = some (v, h') → RecAt P cx G ρ f args h v h'
  | [], _, G, rec, args, h, v, h', hv => by simp [tabHook] at hv
  | (xs, a) :: l, hk, G, rec, args, h, v, h', hv => by
    simp only [tabHook] at hv
    cases he : argsEq xs args with
    | false =>
      rw [he] at hv
      exact known_ok hm hT hM hX hgc hac hgb hOrc hf (fun e h => hk e (List.mem_cons_of_mem _ h)) hv
    | true =>
      rw [he] at hv
      obtain ⟨rfl, hb⟩ := argsEq_eq he
      have hk0 := hk _ (List.mem_cons_self ..)
      cases a with
      | val u =>
        simp [give] at hv
        obtain ⟨rfl, rfl⟩ := hv
        exact known_val hm hT hM hX hgc hac hgb hOrc hf hk0 hb
      | row cells len sz =>
        simp [give] at hv
        obtain ⟨rfl, rfl⟩ := hv
        exact known_row hm hT hM hX hgc hac hgb hOrc hf hk0 hb

/-- What the kernel reckons out. -/
noncomputable def rowIs (r : Option (V × Heap)) (cells : List V) (len sz : Nat) : Bool :=
  match r with
  | some (.slice (some a) l z, h) => Nat.beq l len && (Nat.beq z sz && (Nat.blt 0 len && (match h.cellsAt a (len * sz) with
    | some cs => argsEq cs cells
    | none => false)))
  | _ => false
def valIs (r : Option (V × Heap)) (v : V) : Bool :=
  match r with
  | some (u, _) => argEq u v
  | none => false
theorem known_of_row {cx : Cx} {orc : Orc} {fns : Nat → Option DFn} {n f : Nat} {args cells : List V} {len sz : Nat} (h : rowIs (callN cx orc fns n f args heap0) cells len sz = true) :
    Known cx orc fns f args (.row cells len sz) := by
  unfold rowIs at h
  split at h
  · rename_i a l z h' hc
    simp only [nbeq, nblt, Bool.and_eq_true, decide_eq_true_eq] at h
    obtain ⟨rfl, rfl, hp, h⟩ := h
    split at h
    · rename_i cs hcs
      obtain ⟨rfl, hb⟩ := argsEq_eq h
      exact ⟨⟨n, a, h', hc, hcs⟩, hb, hp⟩
    · cases h
  · cases h
theorem known_of_val {cx : Cx} {orc : Orc} {fns : Nat → Option DFn} {n f : Nat} {args : List V} {v : V} (h : valIs (callN cx orc fns n f args heap0) v = true) :
    Known cx orc fns f args (.val v) := by
  unfold valIs at h
  split at h
  · rename_i u h' hc
    obtain ⟨rfl, hb⟩ := argEq_eq h
    exact ⟨⟨n, h', hc⟩, hb⟩
  · cases h
end Go.Sk

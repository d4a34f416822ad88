/-
  SK, PART O. What the making of a region has checked.
-/
import Derived.Test.YtmncnjolillclaaGreatDoorS05
namespace Go.Sk
variable {D : List Deferred} {P : Program} {cx : Cx} {G : Nat} {ρ : Nat → Int} {T : TT}

/-- What the making of one operation owes. -/
def OpsOk (P : Program) (cx : Cx) (G : Nat) (ρ : Nat → Int) (T : TT) : Prop :=
  ∀ o sk, compOp T cx o = some sk → SkOk P cx G ρ o sk ∧ SkCongr sk (opTmps o)

theorem SkCongr.mono {sk : SK} {l l' : List Nat} (h : SkCongr sk l) (hl : ∀ t ∈ l, t ∈ l') : SkCongr sk l' := fun env env' he => h env env' fun t ht => he t (hl t ht)

theorem opd_congr {env env' : Env} {a : Operand} {x : Opd} (h : opd a = some x) (ht : ∀ t, a = .tmp t → env.get t = env'.get t) : eval env x = eval env' x := by
  cases a with
  | tmp t => simp [opd] at h; subst h; exact ht t rfl
  | const v =>
    simp only [opd, Option.map_eq_some_iff] at h
    obtain ⟨c, _, rfl⟩ := h
    rfl
  | _ => simp [opd] at h; subst h; rfl
theorem freshen_ok {o : Op} {hit : Bool} {sk : SK} (hc : compOp T cx o = some sk) (h1 : SkOk P cx G ρ o sk) (h2 : SkCongr sk (opTmps o)) : SkOk P cx G ρ o (freshen o hit sk) ∧ SkCongr (freshen o hit sk) (opTmps o) := by
  cases o with
  | load t a =>
    cases hit with
    | false => exact ⟨h1, h2⟩
    | true =>
      simp only [freshen]
      cases ha : opd a with
      | none => exact ⟨h1, h2⟩
      | some x =>
        cases sk with
        | read r =>
          simp only [compOp, ha] at hc
          split at hc
          · rename_i b n x' hb hn hx
            simp only [Option.some.injEq] at hx
            subst hx
            cases hbn : (b || Nat.beq n 1) with
            | false => rw [hbn] at hc; cases hc
            | true =>
              rw [hbn] at hc
              simp only [cond_true, Option.some.injEq, SK.read.injEq] at hc
              subst hc
              refine ⟨⟨h1, fun env H H' ad he hg => ?_⟩, fun env env' hag => ⟨h2 env env' hag, opd_congr ha fun t0 h0 => hag t0 ?_⟩⟩
              · simp only [oLoad, he, loadV, Heap.cellsAt, Heap.fam, hg]
              · subst h0
                simp [opTmps, Op.operands]
          · cases hc
        | _ => exact ⟨h1, h2⟩
  | _ => exact ⟨h1, h2⟩

theorem compOper_some {ops : Array Oper} {ms : List Nat} {o : Oper} {d : SOper} (hO : OpsOk P cx G ρ T) (h : compOper T cx ops ms o = some d) :
    d.no = ms.length ∧ d.dst = o.dst ∧ SkOk P cx G ρ o.op d.op ∧ SkCongr d.op d.rd ∧ (∀ t b, d.guard = some (t, b) → t ∈ d.rd) ∧ d.deps = depMask ms o.after.toList ∧
      ((o.guard = none ∧ d.guard = none) ∨ ∃ j b g t, o.guard = some (j, b) ∧ ops[j]? = some g ∧ g.dst = some t ∧ d.guard = some (t, b)) := by
  unfold compOper at h
  split at h
  · cases h
  · rename_i sk hsk
    obtain ⟨h1, h2⟩ := hO _ _ hsk
    obtain ⟨h1, h2⟩ := freshen_ok (hit := anyMake (depMask ms o.after.toList) 0 ops.toList) hsk h1 h2
    split at h
    · rename_i hg
      simp at h
      subst h
      exact ⟨rfl, rfl, h1, h2, (fun t b h => by cases h), rfl, .inl ⟨hg, rfl⟩⟩
    · rename_i j b hg
      split at h
      · rename_i g hj
        split at h
        · rename_i t ht
          simp at h
          subst h
          refine ⟨rfl, rfl, h1, h2.mono (fun t ht => List.mem_cons_of_mem _ ht), fun t b h => ?_, rfl, .inr ⟨j, b, g, t, hg, hj, ht, rfl⟩⟩
          simp at h
          rw [h.1]; simp
        · cases h
      · cases h

theorem compOpers_some {ops : Array Oper} : ∀ {l0 : List Oper} {ms : List Nat} {ds : List SOper}, compOpers T cx ops ms l0 = some ds →
    ds.length = l0.length ∧ ∀ (i : Nat) d, ds[i]? = some d → ∃ o, l0[i]? = some o ∧ compOper T cx ops (ms ++ (ds.take i).map (·.deps)) o = some d
  | [], ms, ds, h => by
    simp [compOpers] at h; subst h
    exact ⟨rfl, fun i d hd => by simp at hd⟩
  | o :: l0, ms, ds, h => by
    simp only [compOpers] at h
    split at h
    · cases h
    · rename_i d hd
      split at h
      · cases h
      · rename_i ds' hds
        simp at h; subst h
        obtain ⟨h1, h2⟩ := compOpers_some hds
        refine ⟨by simp [h1], fun i d' hi => ?_⟩
        cases i with
        | zero => simp at hi; subst hi; exact ⟨o, rfl, by simpa using hd⟩
        | succ i =>
          obtain ⟨o', k1, k2⟩ := h2 i d' (by simpa using hi)
          exact ⟨o', by simpa using k1, by simpa using k2⟩

theorem depMask_bit {ms : List Nat} {j : Nat} : ∀ {l : List Edge}, (depMask ms l).testBit j = true → ∃ e ∈ l, Region.binds .any e = true ∧ (j = e.on ∨ (ms.getD e.on 0).testBit j = true)
  | [], h => by simp [depMask] at h
  | e :: l, h => by
    unfold depMask at h
    split at h
    · rename_i hb
      rw [Nat.testBit_or, Nat.testBit_or, Nat.testBit_two_pow] at h
      simp only [Bool.or_eq_true, decide_eq_true_eq] at h
      rcases h with (h | h) | h
      · exact ⟨e, by simp, hb, .inl h.symm⟩
      · exact ⟨e, by simp, hb, .inr h⟩
      · obtain ⟨e', k1, k2⟩ := depMask_bit h
        exact ⟨e', by simp [k1], k2⟩
    · obtain ⟨e', k1, k2⟩ := depMask_bit h
      exact ⟨e', by simp [k1], k2⟩

theorem parted_mem {m : Nat} : ∀ {l : List SOper} {d : SOper}, (d ∈ (parted m l).1 ∨ d ∈ (parted m l).2) → d ∈ l
  | [], d, h => by simp [parted] at h
  | o :: l, d, h => by
    unfold parted at h
    cases hb : m.testBit o.no with
    | true =>
      simp only [hb, cond_true, List.mem_cons] at h
      rcases h with (h | h) | h
      · simp [h]
      · simp [parted_mem (.inl h)]
      · simp [parted_mem (.inr h)]
    | false =>
      simp only [hb, cond_false, List.mem_cons] at h
      rcases h with h | (h | h)
      · simp [parted_mem (.inl h)]
      · simp [h]
      · simp [parted_mem (.inr h)]
theorem orderOf_mem : ∀ {l rest : List SOper} {d : SOper}, d ∈ orderOf l rest → d ∈ rest
  | [], rest, d, h => by simpa [orderOf] using h
  | e :: l, rest, d, h => by
    unfold orderOf at h
    cases he : e.op.isEff with
    | true =>
      simp only [he, cond_true, List.mem_append] at h
      rcases h with h | h
      · exact parted_mem (.inl h)
      · exact parted_mem (.inr (orderOf_mem h))
    | false =>
      simp only [he, cond_false] at h
      exact orderOf_mem h
theorem maskOf_bit {i : Nat} : ∀ {l : List SOper}, (maskOf l).testBit i = true → ∃ d ∈ l, d.no = i
  | [], h => by simp [maskOf] at h
  | d :: l, h => by
    rw [maskOf, Nat.testBit_or, Nat.testBit_two_pow] at h
    simp only [Bool.or_eq_true, decide_eq_true_eq] at h
    rcases h with h | h
    · exact ⟨d, by simp, h⟩
    · obtain ⟨d', k1, k2⟩ := maskOf_bit h
      exact ⟨d', by simp [k1], k2⟩
theorem pairsOk_all {a : SOper} : ∀ {l : List SOper}, pairsOk a l = true → ∀ b ∈ l, pairOk a b = true
  | [], _, b, h => by cases h
  | c :: l, h, b, hb => by
    simp only [pairsOk, Bool.and_eq_true] at h
    rcases List.mem_cons.1 hb with rfl | hb
    · exact h.1
    · exact pairsOk_all h.2 b hb
theorem planOk_pair : ∀ {l : List SOper}, planOk l = true → ∀ (p q : Nat) (a b : SOper), p < q → l[p]? = some a → l[q]? = some b → pairOk a b = true
  | [], _, p, q, a, b, _, h, _ => by simp at h
  | c :: l, h, p, q, a, b, hpq, ha, hb => by
    simp only [planOk, Bool.and_eq_true] at h
    cases q with
    | zero => omega
    | succ q =>
      cases p with
      | zero => simp at ha hb; subst ha; exact pairsOk_all h.1 b (List.mem_of_getElem? hb)
      | succ p => exact planOk_pair h.2 p q a b (by omega) (by simpa using ha) (by simpa using hb)
theorem edgesBack_all {n : Nat} : ∀ {l : List Edge}, edgesBack n l = true → ∀ e ∈ l, Region.binds .any e = true → e.on < n
  | [], _, e, h, _ => by cases h
  | c :: l, h, e, he, hb => by
    simp only [edgesBack, Bool.and_eq_true] at h
    rcases List.mem_cons.1 he with rfl | he
    · have h1 := h.1
      rw [hb] at h1
      simpa [nblt] using h1
    · exact edgesBack_all h.2 e he hb
theorem edgesAllBack_all : ∀ {l : List Oper} {k : Nat}, edgesAllBack k l = true → ∀ (i : Nat) o, l[i]? = some o → ∀ e ∈ o.after.toList, Region.binds .any e = true → e.on < k + i
  | [], _, _, i, o, h, _, _, _ => by simp at h
  | c :: l, k, h, i, o, ho, e, he, hb => by
    simp only [edgesAllBack, Bool.and_eq_true] at h
    cases i with
    | zero => simp at ho; subst ho; exact edgesBack_all h.1 e he hb
    | succ i => have := edgesAllBack_all h.2 i o (by simpa using ho) e he hb; omega

theorem dstsIn_all {n : Nat} : ∀ {l : List SOper}, dstsIn n l = true → ∀ d ∈ l, ∀ t, d.dst = some t → t < n
  | [], _, d, h, _, _ => by cases h
  | c :: l, h, d, hd, t, ht => by
    simp only [dstsIn, Bool.and_eq_true] at h
    rcases List.mem_cons.1 hd with rfl | hd
    · have h1 := h.1
      rw [ht] at h1
      simpa [nblt] using h1
    · exact dstsIn_all h.2 d hd t ht

theorem opers_spec (hO : OpsOk P cx G ρ T) {ops : Array Oper} {l : List SOper} {N : Nat} (hl : compOpers T cx ops [] ops.toList = some l) :
    l.length = ops.size ∧ ∀ (i : Nat) d, l[i]? = some d → (∀ t, d.dst = some t → t < N) → d.no = i ∧ ∃ o, ops[i]? = some o ∧ OperR P cx G ρ ops N o d ∧ SkCongr d.op d.rd ∧ (∀ t b, d.guard = some (t, b) → t ∈ d.rd) ∧
      d.deps = depMask ((l.take i).map (·.deps)) o.after.toList := by
  obtain ⟨h1, h2⟩ := compOpers_some hl
  refine ⟨by simpa using h1, fun i d hd hN => ?_⟩
  obtain ⟨o, ho, hc⟩ := h2 i d hd
  obtain ⟨k1, k2, k3, k4, k5, k6, k7⟩ := compOper_some hO hc
  have hi := (List.getElem?_eq_some_iff.1 hd).1
  refine ⟨by rw [k1]; simp; omega, o, by simpa using ho, ⟨k2, k3, k7, hN⟩, k4, k5, by simpa using k6⟩

theorem plan_of (hO : OpsOk P cx G ρ T) {ops : Array Oper} {l : List SOper} {N : Nat} (hl : compOpers T cx ops [] ops.toList = some l)
    (h1 : planOk (orderOf l l) = true) (h2 : maskOf (orderOf l l) = 2 ^ ops.size - 1) (h3 : edgesAllBack 0 ops.toList = true) (h4 : dstsIn N (orderOf l l) = true) :
    Plan P cx G ρ ops N (orderOf l l) := by
  obtain ⟨hlen, hsp⟩ := opers_spec (N := N) hO hl
  have hmem : ∀ (p : Nat) d, (orderOf l l)[p]? = some d → d ∈ orderOf l l ∧ l[d.no]? = some d := fun p d hd => by
    have hm := List.mem_of_getElem? hd
    obtain ⟨i, hi⟩ := List.mem_iff_getElem?.1 (orderOf_mem hm)
    have := (hsp i d hi (fun t ht => dstsIn_all h4 d hm t ht)).1
    exact ⟨hm, by rw [this]; exact hi⟩
  have hall : ∀ i, i < ops.size → ∃ (p : Nat) (d : SOper), (orderOf l l)[p]? = some d ∧ d.no = i := fun i hi => by
    have : (maskOf (orderOf l l)).testBit i = true := by rw [h2, Nat.testBit_two_pow_sub_one]; simpa using hi
    obtain ⟨d, hd, hn⟩ := maskOf_bit this
    obtain ⟨p, hp⟩ := List.mem_iff_getElem?.1 hd
    exact ⟨p, d, hp, hn⟩
  have hback : ∀ (i : Nat) (o : Oper), ops[i]? = some o → ∀ e ∈ o.after, Region.binds .any e = true → e.on < i := fun i o ho e he hb => by
    have := edgesAllBack_all h3 i o (by simpa using ho) e (by simpa using he) hb
    omega
  refine ⟨fun p d hd => ?_, fun p q a b hpq ha hb => pairOk_pair (planOk_pair h1 p q a b hpq ha hb), hall, fun p d o hd ho j hj => ?_, hback⟩
  · obtain ⟨k1, k2⟩ := hmem p d hd
    obtain ⟨_, o, q1, q2, q3, q4, _⟩ := hsp _ d k2 (fun t ht => dstsIn_all h4 d k1 t ht)
    exact ⟨o, q1, q2, q3, q4⟩
  · obtain ⟨k1, k2⟩ := hmem p d hd
    obtain ⟨_, o', q1, _, _, _, q5⟩ := hsp _ d k2 (fun t ht => dstsIn_all h4 d k1 t ht)
    rw [ho] at q1
    obtain rfl : o = o' := by simpa using q1
    rw [q5] at hj
    obtain ⟨e, g1, g2, g3⟩ := depMask_bit hj
    refine ⟨e, by simpa using g1, g2, ?_⟩
    rcases g3 with g3 | g3
    · exact .inl g3
    · have hlt := hback _ o ho e (by simpa using g1) g2
      have hsz := (Array.getElem?_eq_some_iff.1 ho).1
      obtain ⟨q, d', r1, r2⟩ := hall e.on (by omega)
      obtain ⟨_, r3⟩ := hmem q d' r1
      refine .inr ⟨q, d', r1, r2, ?_⟩
      rw [r2] at r3
      have : ((l.take d.no).map (·.deps)).getD e.on 0 = d'.deps := by
        simp [List.getElem?_take, hlt, r3]
      rw [this] at g3
      exact g3

/-! ### Reads that float -/
theorem checksOf_some {all : List SOper} : ∀ {l : List SOper} {i : Nat} {cs : List Chk}, checksOf all i l = some cs → ∀ (p : Nat) (d : SOper), l[p]? = some d → d.op.isRead = true →
    effsIn d.deps all = effsTill d.no all ∨ (⟨i + p, effsIn d.deps all, effsTill d.no all⟩ ∈ cs ∧ stable d (l.drop (p + 1)) = true ∧ inL d.dst d.rd = false)
  | [], _, _, _, p, d, h, _ => by simp at h
  | o :: l, i, cs, h, p, d, hd, hr => by
    simp only [checksOf] at h
    split at h
    · cases h
    · rename_i cs' hcs
      cases p with
      | zero =>
        simp at hd; subst hd
        rw [hr] at h
        simp only [Bool.true_and, nbeq] at h
        by_cases he : effsIn o.deps all = effsTill o.no all
        · exact .inl he
        · simp only [he, decide_false, Bool.not_false, cond_true] at h
          cases hs : (stable o l && !inL o.dst o.rd) with
          | false => rw [hs] at h; cases h
          | true =>
            rw [hs] at h
            simp only [cond_true, Option.some.injEq] at h
            simp only [Bool.and_eq_true, Bool.not_eq_true'] at hs
            subst h
            exact .inr ⟨by simp, by simpa using hs.1, hs.2⟩
      | succ p =>
        have ih := checksOf_some hcs p d (by simpa using hd) hr
        rcases ih with ih | ⟨ih, ih2, ih3⟩
        · exact .inl ih
        · refine .inr ⟨?_, by simpa using ih2, ih3⟩
          rw [show i + (p + 1) = i + 1 + p by omega]
          revert h
          cases (o.op.isRead && !Nat.beq (effsIn o.deps all) (effsTill o.no all)) <;> simp only [cond_true, cond_false]
          · intro h; simp at h; subst h; exact ih
          · cases (stable o l && !inL o.dst o.rd) <;> simp only [cond_true, cond_false]
            · intro h; cases h
            · intro h; simp at h; subst h; simp [ih]
theorem stable_all {a : SOper} : ∀ {l : List SOper}, stable a l = true → ∀ b ∈ l, (∀ t, b.dst = some t → t ∉ a.rd) ∧ (∃ u, a.dst = some u) ∧ ∀ t, a.dst = some t → b.dst ≠ some t
  | [], _, b, h => by cases h
  | c :: l, h, b, hb => by
    simp only [stable, Bool.and_eq_true, Bool.not_eq_true'] at h
    rcases List.mem_cons.1 hb with rfl | hb
    · obtain ⟨⟨h1, h2⟩, _⟩ := h
      refine ⟨fun t ht hm => ?_, ?_, fun t ht hbt => ?_⟩
      · rw [(inL_iff ht).2 hm] at h1; cases h1
      · cases ha : a.dst with
        | none => rw [ha] at h2; cases h2
        | some u => exact ⟨u, rfl⟩
      · rw [ht, hbt] at h2; simp [nbeq] at h2
    · exact stable_all h.2 b hb
theorem chksOk_all {ops : List SOper} {env : Env} {hs : List Heap} : ∀ {cs : List Chk}, chksOk ops env hs cs = true → ∀ c ∈ cs, chkOk ops env hs c = true
  | [], _, c, h => by cases h
  | d :: l, h, c, hc => by
    simp only [chksOk, Bool.and_eq_true] at h
    rcases List.mem_cons.1 hc with rfl | hc
    · exact h.1
    · exact chksOk_all h.2 c hc
theorem readsSame_all {r : Env → Heap → Option V} {env : Env} {v : V} : ∀ {hs : List Heap}, readsSame r env v hs = true → ∀ h ∈ hs, r env h = some v
  | [], _, h, hh => by cases hh
  | g :: l, hr, h, hh => by
    simp only [readsSame] at hr
    split at hr
    · rename_i u hu
      simp only [Bool.and_eq_true] at hr
      rcases List.mem_cons.1 hh with rfl | hh
      · rw [hu, veq_eq hr.1]
      · exact readsSame_all hr.2 h hh
    · cases hr

theorem later_same {rec : Rec} {L : List SOper} {E : Nat → Env} {Hp Gs : Nat → Heap} {K : Nat → Nat} (ht : Trace rec L E Hp K Gs) {p t : Nat} : ∀ {q : Nat}, p ≤ q → q ≤ L.length →
    (∀ (r : Nat) (d : SOper), p ≤ r → r < q → L[r]? = some d → d.dst ≠ some t) → (E q).get t = (E p).get t := by
  intro q
  induction q with
  | zero => intro h _ _; obtain rfl : p = 0 := by omega
            rfl
  | succ q ih =>
    intro h1 h2 h3
    by_cases h : p = q + 1
    · subst h; rfl
    · have hlt : q < L.length := by omega
      have hd : L[q]? = some L[q] := List.getElem?_eq_getElem hlt
      have hnot := h3 q _ (by omega) (by omega) hd
      rw [← ih (by omega) (by omega) (fun r d a b c => h3 r d a (by omega) c)]
      rcases ht.step q _ hd with ⟨_, h5, _⟩ | ⟨_, v, _, h5, _⟩ <;> rw [h5, putDst_get, if_neg hnot]

theorem chk_of {ops : Array Oper} {N : Nat} {L : List SOper} {E : Nat → Env} {Hp Gs : Nat → Heap} {K : Nat → Nat} {rec : Rec} (hP : Plan P cx G ρ ops N L) (ht : Trace rec L E Hp K Gs) (hK : K 0 = 0)
    {cs : List Chk} (hcs : checksOf L 0 L = some cs) (hok : chksOk L (E L.length) (listTo Gs (K L.length)).reverse cs = true) :
    ∀ (p : Nat) (d : SOper) r v, L[p]? = some d → d.op = .read r → wanted (E p) d.guard = some true → r (E p) (Gs (K p)) = some v →
      ∀ j, effsIn d.deps L ≤ j → j ≤ effsTill d.no L → j ≤ K L.length → r (E p) (Gs j) = some v := by
  intro p d r v hd hop hw hv j h1 h2 h3
  have hpl := (List.getElem?_eq_some_iff.1 hd).1
  have hlo : effsIn d.deps L ≤ K p := by
    rw [ht.k_eq hK p (by omega)]
    refine effsIn_le fun q d' g1 g2 g3 => ?_
    rcases Nat.lt_trichotomy q p with h4 | h4 | h4
    · exact h4
    · subst h4; obtain rfl := get_same hd g1; rw [hop] at g2; cases g2
    · have := (hP.pair p q d d' h4 hd g1).fore; rw [g3] at this; cases this
  have hhi : K p ≤ effsTill d.no L := by
    rw [ht.k_eq hK p (by omega)]
    exact effsTill_ge fun q d' g1 g2 g3 => (hP.pair q p d' d g1 g2 hd).fore
  have hKn : K p ≤ K L.length := by
    rw [ht.k_eq hK p (by omega), ht.k_eq hK _ (Nat.le_refl _), List.take_length]
    exact (List.take_sublist p L).countP_le
  rcases checksOf_some hcs p d hd (by rw [hop]; rfl) with he | ⟨hc, hst, hnr⟩
  · have : j = K p := by omega
    rw [this]; exact hv
  · have hsall := stable_all hst
    obtain ⟨o, _, _, hcg, hgd⟩ := hP.op p d hd
    have hrd : ∀ t ∈ d.rd, (E L.length).get t = (E p).get t := fun t htm => by
      refine later_same ht (by omega) (Nat.le_refl _) fun q d' g1 g2 g3 g4 => ?_
      by_cases hq : q = p
      · subst hq; obtain rfl := get_same hd g3
        rw [(inL_iff g4).2 htm] at hnr; cases hnr
      · refine (hsall d' ?_).1 t g4 htm
        refine List.mem_iff_getElem?.2 ⟨q - (p + 1), ?_⟩
        rw [List.getElem?_drop, show p + 1 + (q - (p + 1)) = q by omega]
        exact g3
    have hck := chksOk_all hok _ hc
    unfold chkOk at hck
    simp only [Nat.zero_add, hd] at hck
    rw [show wanted (E L.length) d.guard = wanted (E p) d.guard from wanted_congr fun t b h => hrd t (hgd t b h), hw] at hck
    simp only [hop] at hck
    split at hck
    · rename_i r' u heq hdst
      simp only [SK.read.injEq] at heq
      subst heq
      split at hck
      · rename_i v' hv'
        have hrs := readsSame_all hck
        rw [hop] at hcg
        have hcg' := hcg (E L.length) (E p) hrd
        simp only at hcg'
        have hat : ∀ i, effsIn d.deps L ≤ i → i ≤ effsTill d.no L → i ≤ K L.length → r (E p) (Gs i) = some v' := by
          intro i g1 g2 g3
          rw [← hcg']
          refine hrs _ (List.mem_iff_getElem?.2 ⟨i - effsIn d.deps L, ?_⟩)
          rw [List.getElem?_take, if_pos (by omega), List.getElem?_drop, show effsIn d.deps L + (i - effsIn d.deps L) = i by omega]
          exact listTo_rev Gs _ i g3
        have := hat (K p) hlo hhi hKn
        rw [hv] at this
        rw [hat j h1 h2 h3, this]
      · cases hck
    · cases hck

/-- A drawn region. -/
theorem draw_ok (hO : OpsOk P cx G ρ T) (hm : P.follows .mixedOrders = true) {rec : Rec} (hrec : RecOk P cx G ρ rec) {ops : Array Oper} {l : List SOper} {N id : Nat} {dc : DC}
    (hl : compOpers T cx ops [] ops.toList = some l) (hc : drawn ops l = some dc) (hN : dstsOk N dc = true) {n : Nat} {env env' : Env} {H H' : Heap} {x : Ex} (hv : exec rec n dc env H = .ok x env' H')
    {Φ : Emb} {a : Act} {w : World} (hA : AtR D cx G ρ N Φ env H a w) (hF : Free Φ H.next H'.next) {Q : Exit → Act → World → Prop}
    (hQ : ∀ Φ' a' w', x = .normal → AtR D cx G ρ N Φ' env' H' a' w' → Ext Φ H w Φ' H' w' → Q .normal a' w') : (Code.region id ops true).wp P Q a w := by
  unfold drawn at hc
  simp only at hc
  cases hb : (planOk (orderOf l l) && Nat.beq (maskOf (orderOf l l)) (2 ^ ops.size - 1) && edgesAllBack 0 ops.toList) with
  | false => rw [hb] at hc; cases hc
  | true =>
    rw [hb] at hc
    simp only [cond_true] at hc
    simp only [Bool.and_eq_true, nbeq, decide_eq_true_eq] at hb
    split at hc
    · rename_i cs hcs
      simp at hc; subst hc
      simp only [dstsOk] at hN
      have hP := plan_of hO hl hb.1.1 hb.1.2 hb.2 hN
      generalize orderOf l l = L at *
      simp only [exec] at hv
      unfold drawO at hv
      split at hv
      · rename_i e1 h1 hs hrun
        cases hok : chksOk L e1 hs.reverse cs with
        | false => rw [hok] at hv; cases hv
        | true =>
          rw [hok] at hv
          simp at hv
          obtain ⟨rfl, rfl, rfl⟩ := hv
          obtain ⟨E, Hp, K, Gs, ht, t1, t2, t3, t4, t5, t6, t7⟩ := trace_of L hrun
          rw [List.append_nil] at t7
          subst t7
          subst t1 t2 t5 t6
          have hchk := chk_of hP ht t4 hcs hok
          obtain ⟨R, hE, hbig, hdef⟩ := hA
          refine wp_region_any hm (plan_wp hrec hP ht t4 hF hchk (w₀ := { w with drawn := w.drawn + 1 }) (fun Φ' a' w' g1 g2 => hQ Φ' a' w' rfl g1 ?_) ops.size _ a _ Φ 0 ?_ ?_)
          · exact ⟨⟨⟨g2.same.os, g2.same.out, g2.same.tape, Nat.le_trans (Nat.le_succ _) g2.same.drawn⟩, g2.same.size, g2.same.froz⟩, g2.le, g2.far, g2.frame, g2.grow, g2.new, g2.next, g2.objs⟩
          · have hnl : ∀ i, ¬ Lst (Array.replicate ops.size false) i := fun i h => by
              unfold Lst at h
              by_cases hi : i < ops.size <;> simp [hi] at h
            refine ⟨by simp, fun p d _ h => absurd h (hnl _), Nat.zero_le _, fun p d h => by omega, fun p d _ _ _ => hnl _, by rw [t4, t3], Rel.congr (w := w) (w' := { w with drawn := w.drawn + 1 }) rfl R, fun p d r _ _ _ h => absurd h (hnl _), ?_, ExtN.refl _ _ _ _, ?_, hbig, hdef⟩
            · intro f e l' g1 g2 g3
              rw [hF f e g1 g2] at g3; cases g3
            · intro t q hq g1 g2 v hv
              rw [later_same ht (Nat.zero_le q) hq (fun r d _ g4 g5 g6 => absurd (g1 r d g4 g5 g6) (hnl _))] at hv
              exact hE t v hv
          · unfold cnt
            exact Nat.le_trans List.countP_le_length (by simp)
      · cases hv
    · cases hc
end Go.Sk

/-
  SK, PART Q. Code, and calls.
-/
namespace Go.Sk
variable {D : List Deferred} {P : Program} {cx : Cx} {G : Nat} {ρ : Nat → Int} {T : TT}

theorem region_rise (hO : OpsOk P cx G ρ T) {rec : Rec} (hrec : RecOk P cx G ρ rec) {ops : Array Oper} {l : List SOper} {N : Nat} {draw : Bool} {dc : DC}
    (hl : compOpers T cx ops [] ops.toList = some l) (hc : compRegion draw ops l = some dc) (hN : dstsOk N dc = true) {n : Nat} {env env' : Env} {H H' : Heap} {x : Ex} (hv : exec rec n dc env H = .ok x env' H') :
    H.next ≤ H'.next := by
  cases draw with
  | false =>
    simp [compRegion] at hc
    subst hc
    simp only [dstsOk] at hN
    simp only [exec] at hv
    unfold regionO at hv
    split at hv
    · rename_i e h he
      simp at hv
      obtain ⟨_, _, rfl⟩ := hv
      refine runOps_rising (N := N) hrec l (ops := ops) (fun d hd => ?_) he
      obtain ⟨i, hi⟩ := List.mem_iff_getElem?.1 hd
      obtain ⟨_, o, _, k, _⟩ := (opers_spec (N := N) hO hl).2 i d hi (fun t ht => dstsIn_all hN d hd t ht)
      exact ⟨o, k⟩
    · cases hv
  | true =>
    simp only [compRegion] at hc
    unfold drawn at hc
    simp only at hc
    cases hb : (planOk (orderOf l l) && Nat.beq (maskOf (orderOf l l)) (2 ^ ops.size - 1) && edgesAllBack 0 ops.toList) with
    | false => rw [hb] at hc; cases hc
    | true =>
      rw [hb] at hc
      simp only [cond_true] at hc
      simp only [Bool.and_eq_true, nbeq, decide_eq_true_eq] at hb
      split at hc
      · rename_i cs hcs
        simp at hc; subst hc
        simp only [dstsOk] at hN
        have hP := plan_of hO hl hb.1.1 hb.1.2 hb.2 hN
        generalize orderOf l l = L at *
        simp only [exec] at hv
        unfold drawO at hv
        split at hv
        · rename_i e1 h1 hs hrun
          cases hok : chksOk L e1 hs.reverse cs with
          | false => rw [hok] at hv; cases hv
          | true =>
            rw [hok] at hv
            simp at hv
            obtain ⟨rfl, rfl, rfl⟩ := hv
            obtain ⟨E, Hp, K, Gs, ht, t1, t2, t3, t4, t5, t6, t7⟩ := trace_of L hrun
            rw [← t2, ← t6]
            exact tr_rise hrec hP ht (Nat.zero_le _) (Nat.le_refl _)
        · cases hv
      · cases hc

theorem region_ok (hO : OpsOk P cx G ρ T) (hm : P.follows .mixedOrders = true) {rec : Rec} (hrec : RecOk P cx G ρ rec) {ops : Array Oper} {l : List SOper} {N id : Nat} {draw : Bool} {dc : DC}
    (hl : compOpers T cx ops [] ops.toList = some l) (hc : compRegion draw ops l = some dc) (hN : dstsOk N dc = true) {n : Nat} {env env' : Env} {H H' : Heap} {x : Ex} (hv : exec rec n dc env H = .ok x env' H')
    {Φ : Emb} {a : Act} {w : World} (hA : AtR D cx G ρ N Φ env H a w) (hF : Free Φ H.next H'.next) {Q : Exit → Act → World → Prop}
    (hQ : ∀ Φ' a' w', x = .normal → AtR D cx G ρ N Φ' env' H' a' w' → Ext Φ H w Φ' H' w' → Q .normal a' w') : (Code.region id ops draw).wp P Q a w := by
  cases draw with
  | true => exact draw_ok hO hm hrec hl hc hN hv hA hF hQ
  | false =>
    simp [compRegion] at hc
    subst hc
    simp only [dstsOk] at hN
    simp only [exec] at hv
    unfold regionO at hv
    split at hv
    · rename_i e h he
      simp at hv
      obtain ⟨rfl, rfl, rfl⟩ := hv
      obtain ⟨hlen, hsp⟩ := opers_spec (N := N) hO hl
      refine wp_region ?_
      rw [List.range_eq_range', ← hlen]
      refine runOps_ok (N := N) hrec l 0 (fun j d hd => ?_) hA hF he (fun Φ' a' w' g1 g2 => hQ Φ' a' w' rfl g1 g2)
      obtain ⟨_, o, k1, k2, _⟩ := hsp j d hd (fun t ht => dstsIn_all hN d (List.mem_of_getElem? hd) t ht)
      exact ⟨o, by simpa using k1, k2⟩
    · cases hv

def exOf : Ex → Exit
  | .normal => .normal
  | .exit id => .exit id
  | .ret => .ret

theorem loop_rise {body : Env → Heap → Out} (hb : ∀ env h x env' h', body env h = .ok x env' h' → h.next ≤ h'.next) : ∀ (k : Nat) {env : Env} {h : Heap} {x : Ex} {env' : Env} {h' : Heap},
    loopN body k env h = .ok x env' h' → h.next ≤ h'.next
  | 0, env, h, x, env', h', hv => by simp [loopN] at hv
  | k + 1, env, h, x, env', h', hv => by
    simp only [loopN] at hv
    split at hv
    · rename_i e1 h1 he
      exact Nat.le_trans (hb _ _ _ _ _ he) (loop_rise hb k hv)
    · exact hb _ _ _ _ _ hv

theorem exec_rise (hO : OpsOk P cx G ρ T) {rec : Rec} (hrec : RecOk P cx G ρ rec) {N : Nat} : ∀ (c : Code) {dc : DC}, compCode T cx c = some dc → dstsOk N dc = true → ∀ (n : Nat) {env env' : Env} {H H' : Heap} {x : Ex},
    exec rec n dc env H = .ok x env' H' → H.next ≤ H'.next := by
  intro c
  induction c with
  | skip => intro dc hc _ n env env' H H' x hv; simp [compCode] at hc; subst hc; simp [exec] at hv; rw [hv.2.2]; exact Nat.le_refl _
  | region id ops draw =>
    intro dc hc hN n env env' H H' x hv
    simp only [compCode] at hc
    split at hc
    · rename_i l hl; exact region_rise hO hrec hl hc hN hv
    · cases hc
  | seq a b iha ihb =>
    intro dc hc hN n env env' H H' x hv
    simp only [compCode] at hc
    split at hc
    · cases hc
    · rename_i da ha
      split at hc
      · cases hc
      · rename_i db hb
        simp at hc; subst hc
        simp only [dstsOk, Bool.and_eq_true] at hN
        simp only [exec, thenO] at hv
        split at hv
        · rename_i e1 h1 he
          exact Nat.le_trans (iha ha hN.1 n he) (ihb hb hN.2 n hv)
        · exact iha ha hN.1 n hv
  | cond c a b iha ihb =>
    intro dc hc hN n env env' H H' x hv
    simp only [compCode] at hc
    split at hc
    · cases hc
    · split at hc
      · cases hc
      · rename_i da ha
        split at hc
        · cases hc
        · rename_i db hb
          simp at hc; subst hc
          simp only [dstsOk, Bool.and_eq_true] at hN
          simp only [exec] at hv
          split at hv
          · exact iha ha hN.1 n hv
          · exact ihb hb hN.2 n hv
          · cases hv
  | block id c ih =>
    intro dc hc hN n env env' H H' x hv
    simp only [compCode] at hc
    split at hc
    · cases hc
    · rename_i da ha
      simp at hc; subst hc
      simp only [dstsOk] at hN
      simp only [exec, blockO] at hv
      split at hv
      · rename_i i e1 h1 he
        have := ih ha hN n he
        cases hi : Nat.beq i id <;> rw [hi] at hv <;> simp at hv <;> rw [← hv.2.2] <;> exact this
      · exact ih ha hN n hv
  | loop c ih =>
    intro dc hc hN n env env' H H' x hv
    simp only [compCode] at hc
    split at hc
    · cases hc
    · rename_i da ha
      simp at hc; subst hc
      simp only [dstsOk] at hN
      simp only [exec] at hv
      exact loop_rise (fun env h x env' h' => ih ha hN n) n hv
  | exit id => intro dc hc _ n env env' H H' x hv; simp [compCode] at hc; subst hc; simp [exec] at hv; rw [hv.2.2]; exact Nat.le_refl _
  | ret => intro dc hc _ n env env' H H' x hv; simp [compCode] at hc; subst hc; simp [exec] at hv; rw [hv.2.2]; exact Nat.le_refl _
  | _ => intro dc hc; simp [compCode] at hc

theorem exec_ok (hO : OpsOk P cx G ρ T) (hm : P.follows .mixedOrders = true) {rec : Rec} (hrec : RecOk P cx G ρ rec) {N : Nat} : ∀ (c : Code) {dc : DC}, compCode T cx c = some dc → dstsOk N dc = true →
    ∀ (n : Nat) {env env' : Env} {H H' : Heap} {x : Ex}, exec rec n dc env H = .ok x env' H' → ∀ {Φ : Emb} {a : Act} {w : World}, AtR D cx G ρ N Φ env H a w → Free Φ H.next H'.next →
    ∀ {Q : Exit → Act → World → Prop}, (∀ Φ' a' w', AtR D cx G ρ N Φ' env' H' a' w' → Ext Φ H w Φ' H' w' → Q (exOf x) a' w') → c.wp P Q a w := by
  intro c
  induction c with
  | skip =>
    intro dc hc _ n env env' H H' x hv Φ a w hA hF Q hQ
    simp [compCode] at hc; subst hc
    simp [exec] at hv
    obtain ⟨rfl, rfl, rfl⟩ := hv
    exact wp_skip (hQ Φ a w hA (Ext.refl _ _ _))
  | region id ops draw =>
    intro dc hc hN n env env' H H' x hv Φ a w hA hF Q hQ
    simp only [compCode] at hc
    split at hc
    · rename_i l hl
      exact region_ok hO hm hrec hl hc hN hv hA hF (fun Φ' a' w' hx g1 g2 => by subst hx; exact hQ Φ' a' w' g1 g2)
    · cases hc
  | seq c d iha ihb =>
    intro dc hc hN n env env' H H' x hv Φ a w hA hF Q hQ
    simp only [compCode] at hc
    split at hc
    · cases hc
    · rename_i da ha
      split at hc
      · cases hc
      · rename_i db hb
        simp at hc; subst hc
        simp only [dstsOk, Bool.and_eq_true] at hN
        simp only [exec, thenO] at hv
        refine wp_seq ?_
        split at hv
        · rename_i e1 h1 he
          have hr := exec_rise hO hrec d hb hN.2 n hv
          refine iha ha hN.1 n he hA (fun f e k1 k2 => hF f e k1 (Nat.lt_of_lt_of_le k2 hr)) ?_
          intro Φ' a' w' k1 k2
          have hsp := Free.split k2 hr hF
          show d.wp P Q a' w'
          exact ihb hb hN.2 n hv k1 hsp.2 (fun Φ2 a2 w2 g1 g2 => hQ Φ2 a2 w2 g1 (k2.trans hsp.1 g2))
        · rename_i hne
          refine iha ha hN.1 n hv hA hF ?_
          intro Φ' a' w' k1 k2
          have := hQ Φ' a' w' k1 k2
          cases x with
          | normal => exact absurd hv (hne _ _)
          | exit id => exact this
          | ret => exact this
  | cond c d e ihd ihe =>
    intro dc hc hN n env env' H H' x hv Φ a w hA hF Q hQ
    simp only [compCode] at hc
    split at hc
    · cases hc
    · rename_i cc hcc
      split at hc
      · cases hc
      · rename_i da ha
        split at hc
        · cases hc
        · rename_i db hb
          simp at hc; subst hc
          simp only [dstsOk, Bool.and_eq_true] at hN
          simp only [exec] at hv
          have hcv : ∀ b, boolOf (eval env cc) = some b → a.eval c = .bool b := by
            intro b hb'
            unfold boolOf at hb'
            split at hb'
            · rename_i b2 he
              have r := eval_ok hA.2.1 hcc he
              cases hX : a.eval c <;> rw [hX] at r <;> cases r
              simp at hb'; rw [hb']
            · cases hb'
          split at hv
          · rename_i hb'
            exact wp_cond_true (hcv _ hb') (ihd ha hN.1 n hv hA hF hQ)
          · rename_i hb'
            exact wp_cond_false (hcv _ hb') (ihe hb hN.2 n hv hA hF hQ)
          · cases hv
  | block id c ih =>
    intro dc hc hN n env env' H H' x hv Φ a w hA hF Q hQ
    simp only [compCode] at hc
    split at hc
    · cases hc
    · rename_i da ha
      simp at hc; subst hc
      simp only [dstsOk] at hN
      simp only [exec, blockO] at hv
      refine wp_block ?_
      split at hv
      · rename_i i e1 h1 he
        simp only [nbeq, bif_ite] at hv
        split at hv
        · rename_i hi
          simp at hv
          obtain ⟨rfl, rfl, rfl⟩ := hv
          refine ih ha hN n he hA hF (fun Φ' a' w' k1 k2 => ?_)
          simp only [exOf, Exit.inBlock, hi, if_true]
          exact hQ Φ' a' w' k1 k2
        · rename_i hi
          simp at hv
          obtain ⟨rfl, rfl, rfl⟩ := hv
          refine ih ha hN n he hA hF (fun Φ' a' w' k1 k2 => ?_)
          simp only [exOf, Exit.inBlock, hi, if_false]
          exact hQ Φ' a' w' k1 k2
      · rename_i hne
        refine ih ha hN n hv hA hF (fun Φ' a' w' k1 k2 => ?_)
        have := hQ Φ' a' w' k1 k2
        cases x with
        | normal => exact this
        | exit i => exact absurd hv (hne _ _ _)
        | ret => exact this
  | loop c ih =>
    intro dc hc hN n env env' H H' x hv Φ a w hA hF Q hQ
    simp only [compCode] at hc
    split at hc
    · cases hc
    · rename_i da ha
      simp at hc; subst hc
      simp only [dstsOk] at hN
      simp only [exec] at hv
      have key : ∀ (k : Nat) {env : Env} {H : Heap}, loopN (exec rec n da) k env H = .ok x env' H' → ∀ {Φ : Emb} {a : Act} {w : World}, AtR D cx G ρ N Φ env H a w → Free Φ H.next H'.next →
          (∀ Φ' a' w', AtR D cx G ρ N Φ' env' H' a' w' → Ext Φ H w Φ' H' w' → Q (exOf x) a' w') → Code.rounds P c Q k a w := by
        intro k
        induction k with
        | zero => intro env H hv; simp [loopN] at hv
        | succ k ihk =>
          intro env H hv Φ a w hA hF hQ
          rw [rounds_succ]
          simp only [loopN] at hv
          split at hv
          · rename_i e1 h1 he
            have hr := loop_rise (fun env h x env' h' hh => exec_rise hO hrec c ha hN n hh) k hv
            refine ih ha hN n he hA (fun f e k1 k2 => hF f e k1 (Nat.lt_of_lt_of_le k2 hr)) ?_
            intro Φ' a' w' k1 k2
            have hsp := Free.split k2 hr hF
            show Code.rounds P c Q k a' w'
            exact ihk hv k1 hsp.2 (fun Φ2 a2 w2 g1 g2 => hQ Φ2 a2 w2 g1 (k2.trans hsp.1 g2))
          · rename_i hne
            refine ih ha hN n hv hA hF ?_
            intro Φ' a' w' k1 k2
            have := hQ Φ' a' w' k1 k2
            cases x with
            | normal => exact absurd hv (hne _ _)
            | exit id => exact this
            | ret => exact this
      exact wp_loop_rounds n (key n hv hA hF hQ)
  | exit id =>
    intro dc hc _ n env env' H H' x hv Φ a w hA hF Q hQ
    simp [compCode] at hc; subst hc
    simp [exec] at hv
    obtain ⟨rfl, rfl, rfl⟩ := hv
    exact wp_exit (hQ Φ a w hA (Ext.refl _ _ _))
  | ret =>
    intro dc hc _ n env env' H H' x hv Φ a w hA hF Q hQ
    simp [compCode] at hc; subst hc
    simp [exec] at hv
    obtain ⟨rfl, rfl, rfl⟩ := hv
    exact wp_ret (hQ Φ a w hA (Ext.refl _ _ _))
  | _ => intro dc hc; simp [compCode] at hc
end Go.Sk

/-
  SK, PART R. Calls of functions.
-/
namespace Go.Sk
variable {P : Program} {cx : Cx} {G : Nat} {ρ : Nat → Int} {T : TT}

/-- The table of functions tells what the program holds. -/
def FnsOk (P : Program) (cx : Cx) (T : TT) (fns : Nat → Option DFn) : Prop := ∀ f d, fns f = some d →
  ∃ fn, P.funcs[f]? = some fn ∧ compFn T cx fn = some d ∧ fn.name ≠ "runtime.NumGoroutine"

theorem envOf_get : ∀ (l : List V) (i : Nat) (e : Env) (t : Nat), (envOf l i e).get t = if i ≤ t ∧ t < i + l.length then l[t - i]? else e.get t
  | [], i, e, t => by
    rw [envOf, if_neg (by simp)]
  | v :: l, i, e, t => by
    rw [envOf, envOf_get l]
    by_cases h1 : i + 1 ≤ t ∧ t < i + 1 + l.length
    · rw [if_pos h1, if_pos (by simp; omega)]
      obtain ⟨j, rfl⟩ : ∃ j, t = i + 1 + j := ⟨t - (i + 1), by omega⟩
      rw [show i + 1 + j - (i + 1) = j by omega, show i + 1 + j - i = j + 1 by omega]
      simp
    · rw [if_neg h1, Tr.get_put]
      by_cases h2 : t = i
      · subst h2
        rw [if_pos rfl, if_pos (by simp)]
        simp
      · rw [if_neg h2, if_neg (by simp; omega)]

def resVal (tmps : Array Value) : ResultVar → Sem Value
  | .tmp t => pure (tmps.getD t undef)
  | .cell a t => do loadVar t (← asAddr (tmps.getD a undef))
theorem results_eq (fn : Func) (tmps : Array Value) : Go.results fn tmps = (do
    let vs ← fn.results.mapM (resVal tmps)
    pure (if h : vs.size = 1 then vs[0] else .tuple vs)) := by
  unfold Go.results
  congr 1

theorem results_ok (hT : TTok P T) {Φ : Emb} {H : Heap} {w : World} {env : Env} {tmps : Array Value} (R : Rel cx G ρ Φ H w) (hE : EnvR ρ Φ env tmps) : ∀ {rs : List ResultVar} {ds : List DRes} {vs : List V},
    compRes T rs = some ds → Sk.results cx H env ds = some vs →
    ∃ xs : List Value, (rs.mapM (resVal tmps)).run P w = .ok xs w ∧ VRs ρ Φ vs xs
  | [], ds, vs, hc, hv => by
    simp [compRes] at hc; subst hc
    simp [Sk.results] at hv; subst hv
    exact ⟨[], by simp, .nil⟩
  | .tmp t :: rs, ds, vs, hc, hv => by
    simp only [compRes] at hc
    split at hc
    · rename_i l hl
      simp at hc; subst hc
      simp only [Sk.results] at hv
      split at hv
      · cases hv
      · rename_i v hv1
        split at hv
        · cases hv
        · rename_i us hu
          simp at hv; subst hv
          obtain ⟨xs, h1, h2⟩ := results_ok hT R hE hl hu
          obtain ⟨x, h3, h4⟩ := hE t v hv1
          refine ⟨x :: xs, ?_, .cons h4 h2⟩
          have : tmps.getD t undef = x := by simp [h3]
          simp [resVal, this, h1]
    · cases hc
  | .cell q t :: rs, ds, vs, hc, hv => by
    simp only [compRes] at hc
    split at hc
    · rename_i b n l hb hn hl
      cases hbn : (b || Nat.beq n 1) with
      | false => rw [hbn] at hc; cases hc
      | true =>
        rw [hbn] at hc
        simp at hc; subst hc
        simp only [Sk.results] at hv
        split at hv
        · cases hv
        · rename_i v hv1
          split at hv
          · cases hv
          · rename_i us hu
            simp at hv; subst hv
            obtain ⟨xs, h1, h2⟩ := results_ok hT R hE hl hu
            split at hv1
            · rename_i u hu1
              obtain ⟨y, h3, h4⟩ := hE q u hu1
              obtain ⟨ad, x, h5, h6, h7⟩ := loadV_ok R hT hb hn h4 hv1
              refine ⟨x :: xs, ?_, .cons h7 h2⟩
              have : tmps.getD q undef = .pointer (some ad) := by simp [h3, h5]
              simp [resVal, this, asAddr, h6, h1]
            · cases hv1
    · cases hc

/-- What stands for a function does as it does. -/
def OrcOk (P : Program) (cx : Cx) (G : Nat) (ρ : Nat → Int) (orc : Orc) : Prop := ∀ f k, orc f = some k → ∀ rec, RecOk P cx G ρ rec → ∀ args h v h', k rec args h = some (v, h') → RecAt P cx G ρ f args h v h'
theorem noOrc_ok : OrcOk P cx G ρ noOrc := fun f k h => by cases h

theorem plainFn_ok (hO : OpsOk P cx G ρ T) (hm : P.follows .mixedOrders = true) (hT : TTok P T) {fns : Nat → Option DFn} (hf : FnsOk P cx T fns) {rec : Rec} (ih : RecOk P cx G ρ rec) (n : Nat) :
    RecOk P cx G ρ (plainFn cx fns n rec) := by
    intro f args h v h' hv
    simp only [plainFn] at hv
    split at hv
    · cases hv
    · rename_i d hd
      obtain ⟨fn, h1, h2, h3⟩ := hf f d hd
      unfold compFn at h2
      split at h2
      · cases h2
      · rename_i c hc
        split at h2
        · rename_i b r hb hr
          cases hN : dstsOk fn.ntmps b with
          | false => rw [hN] at h2; cases h2
          | true =>
            rw [hN] at h2
            simp at h2; subst h2
            simp only [finish] at hv
            have key : ∀ x env1, exec rec n b (envOf args 0 .nil) h = .ok x env1 h' → (x = .normal ∨ x = .ret) → (∃ vs, Sk.results cx h' env1 r = some vs ∧ v = oneOrTuple vs) →
                h.next ≤ h'.next ∧ (∀ xs w, (callFunc f xs).run P w = .ok (.enter f xs) w) ∧
                ∀ Φ w (xs : Array Value), Rel cx G ρ Φ h w → VRs ρ Φ args xs.toList → Free Φ h.next h'.next →
                  Calls P f xs w (fun e w' => ∃ x Φ', e = .returned x ∧ VR ρ Φ' v x ∧ Rel cx G ρ Φ' h' w' ∧ Ext Φ h w Φ' h' w') := by
              rintro x env1 he hx ⟨vs, hvs, rfl⟩
              refine ⟨exec_rise hO ih c hb hN n he, fun xs w => ?_, fun Φ w xs R hA hF => ?_⟩
              · simp [callFunc, h1, hc, h3]
              · refine calls_of_wp h1 hc (exec_ok hO hm ih c hb hN n he (Φ := Φ) (w := w) ⟨R, ?_, ?_, rfl⟩ hF ?_)
                · intro t u hu
                  rw [envOf_get] at hu
                  split at hu
                  · rename_i hlt
                    obtain ⟨y, k1, k2⟩ := hA.get hu
                    refine ⟨y, ?_, k2⟩
                    simp only [Nat.sub_zero] at k1
                    rw [Array.getElem?_append_left (by have := hA.length; simp at hlt this; omega)]
                    simpa using k1
                  · rw [Tr.get_nil] at hu; cases hu
                · simp; omega
                · intro Φ' a' w' hA' hX
                  obtain ⟨ys, k1, k2⟩ := results_ok hT hA'.1 hA'.2.1 hr hvs
                  have hres : (Go.results fn a'.tmps).run P w' = .ok (if h : ys.toArray.size = 1 then ys.toArray[0] else .tuple ys.toArray) w' := by
                    rw [results_eq, Array.mapM_eq_mapM_toList]
                    simp [k1]
                  have hone : VR ρ Φ' (oneOrTuple vs) (if h : ys.toArray.size = 1 then ys.toArray[0] else .tuple ys.toArray) := by
                    have hl := k2.length
                    cases k2 with
                    | nil => simp [oneOrTuple]; exact .tuple (xs := #[]) .nil
                    | @cons v1 y1 vs' ys' g1 g2 =>
                      cases g2 with
                      | nil => simpa [oneOrTuple] using g1
                      | @cons v2 y2 vs2 ys2 g3 g4 => simp [oneOrTuple]; exact .tuple (xs := (y1 :: y2 :: ys2).toArray) (.cons g1 (.cons g3 g4))
                  rcases hx with rfl | rfl
                  · exact ⟨hA'.2.2.2, _, hres, _, Φ', rfl, hone, hA'.1, hX⟩
                  · exact ⟨hA'.2.2.2, _, hres, _, Φ', rfl, hone, hA'.1, hX⟩
            split at hv
            · cases hv
            · cases hv
            · rename_i x env1 h1' hne he
              split at hv
              · rename_i vs hvs
                simp at hv
                obtain ⟨rfl, rfl⟩ := hv
                refine key x env1 he ?_ ⟨vs, hvs, rfl⟩
                cases x with
                | normal => exact .inl rfl
                | ret => exact .inr rfl
                | exit id => exact absurd rfl (hne id)
              · cases hv
        · cases h2

theorem callN_ok {orc : Orc} (hOrc : OrcOk P cx G ρ orc) (hO : OpsOk P cx G ρ T) (hm : P.follows .mixedOrders = true) (hT : TTok P T) {fns : Nat → Option DFn} (hf : FnsOk P cx T fns) : ∀ n, RecOk P cx G ρ (callN cx orc fns n) := by
  intro n
  induction n with
  | zero => intro f args h v h' hv; simp [callN] at hv
  | succ n ih =>
    intro f args h v h' hv
    simp only [callN] at hv
    split at hv
    · exact plainFn_ok hO hm hT hf ih n f args h v h' hv
    · rename_i k hk
      split at hv
      · rename_i r hr
        obtain ⟨v1, h1⟩ := r
        simp only [Option.some.injEq, Prod.mk.injEq] at hv
        obtain ⟨rfl, rfl⟩ := hv
        exact hOrc f k hk _ ih args h v1 h1 hr
      · exact plainFn_ok hO hm hT hf ih n f args h v h' hv
end Go.Sk

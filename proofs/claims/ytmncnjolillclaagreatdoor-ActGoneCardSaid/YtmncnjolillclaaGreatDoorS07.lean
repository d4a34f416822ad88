/-
  SK, PART S1. Operations that call; clear; bytes to text; the functions without a body.
-/
import Derived.Test.YtmncnjolillclaaGreatDoorS06
import Derived.Maps.RangeRun
import Derived.MapKept
namespace Go.Sk
variable {P : Program} {cx : Cx} {G : Nat} {ρ : Nat → Int} {T : TT}

theorem map_toList (a : Act) (xs : Array Operand) : (xs.map a.eval).toList = xs.toList.map a.eval := by simp

theorem call_ok {c : Call} {f : Nat} {l : List Opd} (hc : c.callee = .value (.func f)) (hl : opds c.args.toList = some l) : CallOk P cx G ρ (.call c) (oCall f l) := by
  intro oper ho Φ H w env a g args R hE hv
  unfold oCall at hv
  split at hv
  · rename_i vs he
    simp at hv
    obtain ⟨rfl, rfl⟩ := hv
    have r := evals_ok hE hl he
    refine ⟨c.args.map a.eval, by rw [map_toList]; exact r, ?_⟩
    simp [execOp, ho, resolve, hc, Act.eval, Deferred.ofValue, invoke]
  · cases hv

theorem run_callMethod (hM : MethOk P cx) {t f : Nat} {m : String} (h : cx.meth t m = some f) (v : Value) (args : Array Value) (w : World) :
    (callMethod (.iface t v) m args).run P w = (callFunc f (#[v] ++ args)).run P w := by
  simp [callMethod, (hM t m f h).1]

theorem invoke_ok (hM : MethOk P cx) {c : Call} {x : Operand} {m : String} {x' : Opd} {l : List Opd} (hc : c.callee = .invoke x m) (hx : opd x = some x') (hl : opds c.args.toList = some l) :
    CallOk P cx G ρ (.call c) (oInvoke cx x' m l) := by
  intro oper ho Φ H w env a g args R hE hv
  unfold oInvoke at hv
  split at hv
  · cases hv
  · rename_i v he
    split at hv
    · cases hv
    · rename_i vs hes
      have r := evals_ok hE hl hes
      have r0 := eval_ok hE hx he
      unfold invokeV at hv
      split at hv
      · rename_i t u
        split at hv
        · rename_i f hf
          simp at hv
          obtain ⟨rfl, rfl⟩ := hv
          generalize hX : a.eval x = X at *
          cases r0 with
          | @iface _ _ y hr =>
            refine ⟨#[y] ++ c.args.map a.eval, by rw [Array.toList_append, map_toList]; exact .cons hr r, ?_⟩
            have hex : (#[Value.iface t y] ++ c.args.map a.eval).extract 1 (#[Value.iface t y] ++ c.args.map a.eval).size = c.args.map a.eval := by
              apply Array.ext'
              simp
              rw [List.take_of_length_le (by simp)]
            have h0 : (#[Value.iface t y] ++ c.args.map a.eval)[0]? = some (Value.iface t y) := by rw [Array.getElem?_append_left (show 0 < 1 from Nat.zero_lt_one)]; rfl
            rw [← run_callMethod hM hf]
            simp only [execOp, ho, resolve, hc, hX, Sem.run_bind, Sem.run_pure, Result.andThen_ok, invoke, h0, hex]
        · cases hv
      · cases hv

theorem callv_ok (hM : MethOk P cx) {c : Call} {x : Operand} {x' : Opd} {l : List Opd} (hc : c.callee = .value x) (hx : opd x = some x') (hl : opds c.args.toList = some l) :
    CallOk P cx G ρ (.call c) (oCallv cx x' l) := by
  intro oper ho Φ H w env a g args R hE hv
  unfold oCallv at hv
  split at hv
  · cases hv
  · rename_i v he
    split at hv
    · cases hv
    · rename_i vs hes
      have r := evals_ok hE hl hes
      have r0 := eval_ok hE hx he
      unfold calleeV at hv
      generalize hX : a.eval x = X at *
      split at hv
      · simp at hv
        obtain ⟨rfl, rfl⟩ := hv
        cases r0 with
        | @func _ _ _ X1 X2 h1 h2 =>
          refine ⟨X1 ++ c.args.map a.eval ++ X2, by simp only [Array.toList_append, map_toList]; rw [← List.append_assoc]; exact (h1.append r).append h2, ?_⟩
          simp [execOp, ho, resolve, hc, hX, Deferred.ofValue, invoke]
      · rename_i m t u
        split at hv
        · rename_i f hf
          simp at hv
          obtain ⟨rfl, rfl⟩ := hv
          cases r0 with
          | @func _ _ _ X1 X2 h1 h2 =>
            obtain ⟨q, hq, hr⟩ := h1.single
            have hX1 : X1 = #[q] := by cases X1; simpa using hq
            subst hX1
            cases hr with
            | @iface _ _ y hr =>
              refine ⟨#[y] ++ c.args.map a.eval, by rw [Array.toList_append, map_toList]; exact .cons hr r, ?_⟩
              have hex : (#[Value.iface t y] ++ c.args.map a.eval).extract 1 (#[Value.iface t y] ++ c.args.map a.eval).size = c.args.map a.eval := by
                apply Array.ext'
                simp
                rw [List.take_of_length_le (by simp)]
              have h0 : (#[Value.iface t y] ++ c.args.map a.eval)[0]? = some (Value.iface t y) := by rw [Array.getElem?_append_left (show 0 < 1 from Nat.zero_lt_one)]; rfl
              rw [← run_callMethod hM hf]
              simp only [execOp, ho, resolve, hc, hX, Deferred.ofValue, Sem.run_bind, Sem.run_pure, Result.andThen_ok, invoke, h0, hex]
        · cases hv
      · cases hv

theorem clear_ok (hT : TTok P T) {c : Call} {t e : Nat} {z : V} {x : Operand} {x' : Opd} (hc : c.callee = .builtin .clear) (ha : c.args.toList = [x]) (hat : c.argTypes.toList = [t])
    (hu : T.und t = some (.slice e)) (hz : T.zero e = some z) (hzl : 0 < z.cells.length) (hzf : allFlat z.cells = true) (hx : opd x = some x') : EffOk P cx G ρ (.call c) (oClear z.cells x') := by
  intro oper ho Φ H w env a v H' R hE hF hv
  obtain ⟨zv, hz1, hz2⟩ := zero_ok hT hz w
  have hzc := (hz2 ρ Φ).cells
  unfold oClear at hv
  have hexec : ∀ X, a.eval x = X → (∃ w' Φ', (Builtin.clear_ #[t] oper.type #[X]).run P w = .ok (.tuple #[]) w' ∧ v = .tuple [] ∧ Rel cx G ρ Φ' H' w' ∧ Ext Φ H w Φ' H' w') →
      ∃ nx w' Φ' x, (execOp a.eval oper).run P w = .ok nx w' ∧ (nx = .value x ∨ (nx = .skip ∧ x = undef)) ∧ VR ρ Φ' v x ∧ Rel cx G ρ Φ' H' w' ∧ Ext Φ H w Φ' H' w' := by
    rintro X hX ⟨w', Φ', h1, h2, h3, h4⟩
    refine ⟨.value (.tuple #[]), w', Φ', _, ?_, .inl rfl, by rw [h2]; exact undef_ok, h3, h4⟩
    simp [execOp, ho, resolve, hc, arr1 ha, arr1 hat, hX, invoke, builtin, h1]
  split at hv
  · rename_i z' n' he
    have r := eval_ok hE hx he
    generalize hX : a.eval x = X at *
    simp at hv; obtain ⟨rfl, rfl⟩ := hv
    cases r
    exact hexec _ rfl ⟨w, Φ, by simp [Builtin.clear_, run_und hT w hu], rfl, R, Ext.refl _ _ _⟩
  · rename_i d len zz he
    have r := eval_ok hE hx he
    generalize hX : a.eval x = X at *
    simp only [nbeq, bif_ite] at hv
    split at hv
    · rename_i h0
      subst h0
      simp at hv; obtain ⟨rfl, rfl⟩ := hv
      refine hexec _ rfl ⟨w, Φ, ?_, rfl, R, Ext.refl _ _ _⟩
      cases r <;> simp [Builtin.clear_, run_und hT w hu]
    · rename_i h0
      obtain ⟨hw, rfl⟩ := done_some hv
      cases r with
      | @slice _ b _ cap _ L hab hL hlen hroom =>
        have hzs := zeros_ok hzc hzl len
        obtain ⟨w', k1, k2, k3⟩ := R.write (P := P) hw hab hzs (allFlat_of (allFlat_zeros hzf len) hzs)
        refine hexec _ rfl ⟨w', Φ, ?_, rfl, k2, k3⟩
        obtain ⟨len', rfl⟩ : ∃ l, len = l + 1 := ⟨len - 1, by omega⟩
        have hzlen := hzc.length
        simp only [Array.length_toList] at hzlen
        rw [hzlen] at k1
        simp only [Array.toList_map, Array.toList_range] at k1
        simp [Builtin.clear_, run_und hT w hu, hz1, Builtin.zeroCells, k1]
      | slice0 => exact absurd rfl h0
  · cases hv
end Go.Sk

/-
  SK, PART S2. Maps.
-/
namespace Go.Sk
variable {P : Program} {cx : Cx} {G : Nat} {ρ : Nat → Int} {T : TT} {Φ : Emb} {H : Heap} {w : World}

/-- What the table says of a kind of keys. -/
def KindOk (T : TT) (t : Nat) : KK → Prop
  | .int => ∃ k, T.und t = some (.int k)
  | .str => T.und t = some .string
  | .ptr => (∃ e, T.und t = some (.pointer e)) ∧ eqK T t = some .ptr
  | .pair => ∃ e k, T.und t = some (.array 2 e) ∧ T.und e = some (.int k) ∧ T.size e = some 1
  | .no => True
theorem keyKind_ok (t : Nat) : KindOk T t (keyKind T t) := by
  unfold keyKind
  split
  · rename_i k h; exact ⟨k, h⟩
  · rename_i h; exact h
  · rename_i e h
    split
    · rename_i n hn
      cases hb : Nat.beq n 0 with
      | true => trivial
      | false => exact ⟨⟨e, h⟩, by simp [eqK, h, hn, hb]⟩
    · trivial
  · rename_i len e h
    split
    · rename_i k hk
      split
      · rename_i n hn
        cases hb : (Nat.beq len 2 && Nat.beq n 1) with
        | false => trivial
        | true =>
          simp only [nbeq, Bool.and_eq_true, decide_eq_true_eq] at hb
          obtain ⟨rfl, rfl⟩ := hb
          exact ⟨e, k, h, hk, hn⟩
      · trivial
    · trivial
  · trivial

theorem und_agg {t : Nat} {k : IntKind} (h : T.und t = some (.int k)) : T.agg t = some false := by simp [TT.agg, h]
theorem pair_of {u : V} (h : KK.isNo .pair u = false) : ∃ k x k1 y, u = .agg [.int k x, .int k1 y] := by
  simp only [KK.isNo] at h
  split at h
  · split at h
    · exact ⟨_, _, _, _, rfl⟩
    · cases h
  · cases h
theorem pair_val {k k1 : IntKind} {x y : IE} {v : Value} (h : VR ρ Φ (.agg [.int k x, .int k1 y]) v) : v = .agg #[.int k (x.ev ρ), .int k1 (y.ev ρ)] := by
  cases h with
  | @agg _ xs h =>
    obtain ⟨l⟩ := xs
    simp only at h
    cases h with
    | cons h1 h2 => cases h2 with
      | cons h2 h3 => cases h3; cases h1; cases h2; rfl

theorem checkKey_ok (hT : TTok P T) {t : Nat} {kk : KK} (hk : KindOk T t kk) {u : V} (hno : kk.isNo u = false) (b : Bool) {v : Value} (hv : VR ρ Φ u v) (w : World) : (Instr.checkKey b 10000 t v).run P w = .ok () w := by
  rw [show (10000 : Nat) = 9999 + 1 from rfl]
  unfold Instr.checkKey
  cases kk with
  | int => obtain ⟨k, h⟩ := hk; simp [run_und hT w h]
  | str => simp [run_und hT w hk]
  | ptr => obtain ⟨⟨e, h⟩, _⟩ := hk; simp [run_und hT w h]
  | pair =>
    obtain ⟨e, k, h, he, hs⟩ := hk
    obtain ⟨k0, x, k1, y, rfl⟩ := pair_of hno
    rw [pair_val hv]
    have hc : ∀ v, (Instr.checkKey b 9999 e v).run P w = .ok () w := by
      intro v
      rw [show (9999 : Nat) = 9998 + 1 from rfl]
      unfold Instr.checkKey
      simp [run_und hT w he]
    simp only [Sem.run_bind, run_und hT w h, Result.andThen_ok, Std.Legacy.Range.forIn_eq_forIn_range', Std.Legacy.Range.size, Nat.sub_zero, Nat.add_sub_cancel, Nat.div_one, List.range'_succ, List.range'_zero, List.forIn_cons, List.forIn_nil]
    simp [run_size hT w hs, part, run_isAgg hT w (und_agg he), hc]
  | no => cases hno

theorem str_beq (s t : ByteArray) : (s == t) = (s.data.toList == t.data.toList) := by
  have : (s == t) = (s.data == t.data) := rfl
  rw [this]
  cases s.data; cases t.data; simp
theorem pairEq_true {l m : List V} (h : pairEq cx l m = some true) : ∃ k x k1 y x' y', l = [.int k x, .int k1 y] ∧ m = [.int k x', .int k1 y'] ∧ ieCmp cx .eql x x' = some true ∧ ieCmp cx .eql y y' = some true := by
  unfold pairEq at h
  split at h
  · split at h
    · split at h
      · rename_i hk
        obtain ⟨rfl, rfl⟩ := hk
        split at h
        · rename_i h1; exact ⟨_, _, _, _, _, _, rfl, rfl, h1, h⟩
        · cases h
        · cases h
      · cases h
    · cases h
  · cases h
theorem pairEq_some {l m : List V} {r : Bool} (h : pairEq cx l m = some r) : ∃ k x k1 y x' y', l = [.int k x, .int k1 y] ∧ m = [.int k x', .int k1 y'] ∧
    ((ieCmp cx .eql x x' = some true ∧ ieCmp cx .eql y y' = some r) ∨ (ieCmp cx .eql x x' = some false ∧ r = false)) := by
  unfold pairEq at h
  split at h
  · split at h
    · split at h
      · rename_i hk
        obtain ⟨rfl, rfl⟩ := hk
        split at h
        · rename_i h1; exact ⟨_, _, _, _, _, _, rfl, rfl, .inl ⟨h1, h⟩⟩
        · rename_i h1; exact ⟨_, _, _, _, _, _, rfl, rfl, .inr ⟨h1, by simpa using h.symm⟩⟩
        · cases h
      · cases h
    · cases h
  · cases h
/-- Two keys of one kind: whether they are equal, and that they are the same if they are. -/
theorem keyEq_same (R : Rel cx G ρ Φ H w) {kk : KK} {u v : V} {x y : Value} (hu : VR ρ Φ u x) (hv : VR ρ Φ v y) (h : keyEq cx kk u v = some true) : x = y ∧ Instr.sameBits 10000 y x = true := by
  unfold keyEq at h
  split at h
  · split at h
    · split at h
      · split at h
        · rename_i k k' e
          subst e
          have := ieCmp_ok R.asmOk h
          cases hu; cases hv
          simp [cmpInt] at this
          rw [this]
          exact ⟨rfl, by simp [Instr.sameBits]⟩
        · cases h
      · cases h
    · cases h
  · split at h
    · split at h
      · simp at h
        rw [strEq_eq] at h
        cases hu with
        | str s1 =>
          generalize hq : V.str _ = q at hv
          cases hv with
          | str s2 =>
            simp only [V.str.injEq] at hq
            subst hq
            have h' := map_u8_inj (of_decide_eq_true h)
            have : s1 = s2 := by
              obtain ⟨⟨d1⟩⟩ := s1
              obtain ⟨⟨d2⟩⟩ := s2
              simp at h'
              rw [h']
            subst this
            exact ⟨rfl, by simp [Instr.sameBits, str_beq]⟩
          | _ => cases hq
      · cases h
    · cases h
  · split at h
    case h_2 => cases h
    rename_i p
    split at h
    case h_2 => cases h
    rename_i q
    cases p with
    | none =>
      cases q with
      | none => cases hu; cases hv; exact ⟨rfl, by simp [Instr.sameBits]⟩
      | some q => simp [eqV] at h
    | some p =>
      cases q with
      | none => simp [eqV] at h
      | some q =>
        simp only [eqV] at h
        cases hu with
        | ptr hx =>
          cases hv with
          | ptr hy =>
            rename_i b1 b2
            unfold sameDA at h
            simp only [nbeq, bif_ite] at h
            split at h
            · split at h
              · rename_i h1 h2
                simp at h
                obtain ⟨pf, pe, po⟩ := p
                obtain ⟨qf, qe, qo⟩ := q
                simp only at h h1 h2
                subst h1; subst h2; subst h
                obtain ⟨l1, a1, a2, a3, a4, _⟩ := hx
                obtain ⟨l2, c1, c2, c3, c4, _⟩ := hy
                rw [a1] at c1
                obtain rfl : l1 = l2 := by simpa using c1
                obtain ⟨x1, x2, x3⟩ := b1
                obtain ⟨y1, y2, y3⟩ := b2
                simp only at a2 a3 a4 c2 c3 c4
                subst a4; subst c4; subst a2; subst c2
                have : x2 = y2 := by omega
                subst this
                exact ⟨rfl, by simp [Instr.sameBits]⟩
              · cases h
            · simp at h
  · split at h
    case h_2 => cases h
    rename_i l
    split at h
    case h_2 => cases h
    rename_i m
    obtain ⟨k, x0, k1, y0, x0', y0', rfl, rfl, h1, h2⟩ := pairEq_true h
    rw [pair_val hu, pair_val hv]
    have e1 := ieCmp_ok R.asmOk h1
    have e2 := ieCmp_ok R.asmOk h2
    simp [cmpInt] at e1 e2
    rw [e1, e2]
    exact ⟨rfl, by simp [Instr.sameBits]⟩
  · cases h

theorem sameNow_int {k : IntKind} {u v : V} {x y : Value} {r : Bool} (R : Rel cx G ρ Φ H w) (hu : VR ρ Φ u x) (hv : VR ρ Φ v y) (h : keyEq cx .int u v = some r) : Instr.sameNow (.int k) x y = some r := by
  simp only [keyEq] at h
  split at h
  · split at h
    · split at h
      · rename_i k' e
        subst e
        have := ieCmp_ok R.asmOk h
        cases hu; cases hv
        simp [cmpInt] at this
        simp [Instr.sameNow, this]
      · cases h
    · cases h
  · cases h
theorem sameNow_str {u v : V} {x y : Value} {r : Bool} (hu : VR ρ Φ u x) (hv : VR ρ Φ v y) (h : keyEq cx .str u v = some r) : Instr.sameNow .string x y = some r := by
  simp only [keyEq] at h
  split at h
  · split at h
    · simp at h
      subst h
      cases hu with
      | str s1 =>
        generalize hq : V.str _ = q at hv
        cases hv with
        | str s2 =>
          simp only [V.str.injEq] at hq
          subst hq
          rw [strEq_map]
          simp only [Instr.sameNow, str_beq]
        | _ => cases hq
    · cases h
  · cases h

/-- What was found, in the two. -/
def FoundR (ρ : Nat → Int) (Φ : Emb) : Option (Nat × V) → Option (Nat × Value) → Prop
  | none, none => True
  | some (i, v), some (j, x) => i = j ∧ VR ρ Φ v x
  | _, _ => False

theorem findNow_ok (R : Rel cx G ρ Φ H w) {d : TypeDesc} {kk : KK} (hs : ∀ {u v : V} {x y : Value} {r : Bool}, VR ρ Φ u x → VR ρ Φ v y → keyEq cx kk u v = some r → Instr.sameNow d x y = some r)
    {u : V} {x : Value} (hu : VR ρ Φ u x) : ∀ {es : List (V × V × Nat)} {rs : List MapEntry} {i : Nat} {r : Option (Nat × V)}, EntR ρ Φ es rs → findKey cx kk u es i = some r →
      ∃ r', Instr.findNow d x rs i = some r' ∧ FoundR ρ Φ r r' ∧ ∀ j v, r = some (j, v) → ∃ e, rs[j - i]? = some e ∧ i ≤ j ∧ x = e.key ∧ Instr.sameBits 10000 e.key x = true
  | [], rs, i, r, he, h => by
    cases he
    simp [findKey] at h
    subst h
    exact ⟨none, rfl, trivial, fun j v h => by cases h⟩
  | (k', v, b) :: es, rs, i, r, he, h => by
    cases he with
    | @cons _ _ _ x' y' _ rs' hk hv he' =>
      simp only [findKey] at h
      split at h
      · cases h
      · rename_i hq
        simp at h; subst h
        refine ⟨some (i, y'), by simp [Instr.findNow, hs hu hk hq], ⟨rfl, hv⟩, ?_⟩
        intro j v' hj
        simp only [Option.some.injEq, Prod.mk.injEq] at hj
        obtain ⟨rfl, _⟩ := hj
        obtain ⟨h1, h2⟩ := keyEq_same R hu hk hq
        exact ⟨_, by simp; rfl, Nat.le_refl _, h1, h2⟩
      · rename_i hq
        obtain ⟨r', k1, k2, k3⟩ := findNow_ok R hs hu he' h
        refine ⟨r', by simp [Instr.findNow, hs hu hk hq, k1], k2, ?_⟩
        intro j v' hj
        obtain ⟨e, g1, g2, g3⟩ := k3 j v' hj
        exact ⟨e, by rw [show j - i = (j - (i + 1)) + 1 by omega]; simpa using g1, by omega, g3⟩

theorem keyEq_ptr {u v : V} {r : Bool} (h : keyEq cx .ptr u v = some r) : eqV .ptr false u v = some r := by
  simp only [keyEq] at h
  split at h
  · split at h
    · exact h
    · cases h
  · cases h
theorem findAsking_ok (R : Rel cx G ρ Φ H w) {t : Nat} {kk : KK} (hs : ∀ {u v : V} {x y : Value} {r : Bool}, VR ρ Φ u x → VR ρ Φ v y → keyEq cx kk u v = some r → (Op.equal t x y).run P w = .ok r w)
    {u : V} {x : Value} (hu : VR ρ Φ u x) : ∀ {es : List (V × V × Nat)} {rs : List MapEntry} {i : Nat} {r : Option (Nat × V)}, EntR ρ Φ es rs → findKey cx kk u es i = some r →
      ∃ r', (Instr.findAsking t x rs i).run P w = .ok r' w ∧ FoundR ρ Φ r r' ∧ ∀ j v, r = some (j, v) → ∃ e, rs[j - i]? = some e ∧ i ≤ j ∧ x = e.key ∧ Instr.sameBits 10000 e.key x = true
  | [], rs, i, r, he, h => by
    cases he
    simp [findKey] at h
    subst h
    exact ⟨none, by simp [Instr.findAsking], trivial, fun j v h => by cases h⟩
  | (k', v, b) :: es, rs, i, r, he, h => by
    cases he with
    | @cons _ _ _ x' y' _ rs' hkk hv he' =>
      simp only [findKey] at h
      split at h
      · cases h
      · rename_i hq
        simp at h; subst h
        have he := hs hu hkk hq
        refine ⟨some (i, y'), by simp [Instr.findAsking, he], ⟨rfl, hv⟩, ?_⟩
        intro j v' hj
        simp only [Option.some.injEq, Prod.mk.injEq] at hj
        obtain ⟨rfl, _⟩ := hj
        obtain ⟨h1, h2⟩ := keyEq_same R hu hkk hq
        exact ⟨_, by simp; rfl, Nat.le_refl _, h1, h2⟩
      · rename_i hq
        have he := hs hu hkk hq
        obtain ⟨r', k1, k2, k3⟩ := findAsking_ok R hs hu he' h
        refine ⟨r', by simp [Instr.findAsking, he, k1], k2, ?_⟩
        intro j v' hj
        obtain ⟨e, g1, g2, g3⟩ := k3 j v' hj
        exact ⟨e, by rw [show j - i = (j - (i + 1)) + 1 by omega]; simpa using g1, by omega, g3⟩
theorem equal_pair (R : Rel cx G ρ Φ H w) (hT : TTok P T) {t e : Nat} {k0 : IntKind} (h : T.und t = some (.array 2 e)) (he : T.und e = some (.int k0)) (hs : T.size e = some 1)
    {u v : V} {x y : Value} {r : Bool} (hu : VR ρ Φ u x) (hv : VR ρ Φ v y) (hq : keyEq cx .pair u v = some r) : (Op.equal t x y).run P w = .ok r w := by
  simp only [keyEq] at hq
  split at hq
  case h_2 => cases hq
  split at hq
  case h_2 => cases hq
  obtain ⟨k, x0, k1, y0, x0', y0', rfl, rfl, h1⟩ := pairEq_some hq
  rw [pair_val hu, pair_val hv]
  have hc : ∀ d k (a b : Int), (Op.equalIn (d + 1) e (.int k a) (.int k b)).run P w = .ok (a == b) w := by
    intro d k a b
    simp [Op.equalIn, run_und hT w he]
  have main : ∀ d, (Op.equalIn (d + 1 + 1) t (.agg #[.int k (x0.ev ρ), .int k1 (y0.ev ρ)]) (.agg #[.int k (x0'.ev ρ), .int k1 (y0'.ev ρ)])).run P w = .ok r w := by
    intro d
    rw [Op.equalIn]
    simp only [Sem.run_bind, run_und hT w h, run_size hT w hs, Result.andThen_ok, Std.Legacy.Range.forIn_eq_forIn_range', Std.Legacy.Range.size, Nat.sub_zero, Nat.add_sub_cancel, Nat.div_one, List.range'_succ, List.range'_zero, List.forIn_cons, List.forIn_nil]
    rcases h1 with ⟨h1, h2⟩ | ⟨h1, rfl⟩
    · have e1 := ieCmp_ok R.asmOk h1
      have e2 := ieCmp_ok R.asmOk h2
      simp [cmpInt] at e1 e2
      cases r <;> simp at e2 <;> simp [part, run_isAgg hT w (und_agg he), hc, e1, e2]
    · have e1 := ieCmp_ok R.asmOk h1
      simp [cmpInt] at e1
      simp [part, run_isAgg hT w (und_agg he), hc, e1]
  exact main (Op.maxDepth - 2)

theorem findKey_ok (R : Rel cx G ρ Φ H w) (hT : TTok P T) {t : Nat} {kk : KK} (hk : KindOk T t kk) {u : V} (hno : kk.isNo u = false)
    {x : Value} (hu : VR ρ Φ u x) {es : List (V × V × Nat)} {rs : List MapEntry} {r : Option (Nat × V)} (he : EntR ρ Φ es rs) (h : findKey cx kk u es 0 = some r) :
    ∃ r', (Instr.findKey t x rs).run P w = .ok r' w ∧ FoundR ρ Φ r r' ∧ ∀ j v, r = some (j, v) → ∃ e, rs[j]? = some e ∧ x = e.key ∧ Instr.sameBits 10000 e.key x = true := by
  cases kk with
  | no => cases hno
  | int =>
    obtain ⟨k, hk⟩ := hk
    obtain ⟨r', h1, h2, h3⟩ := findNow_ok R (fun a b c => sameNow_int (k := k) R a b c) hu he h
    refine ⟨r', by simp [Instr.findKey, run_und hT w hk, h1], h2, fun j v hj => ?_⟩
    obtain ⟨e, g1, _, g2⟩ := h3 j v hj
    exact ⟨e, g1, g2⟩
  | str =>
    obtain ⟨r', h1, h2, h3⟩ := findNow_ok R (fun a b c => sameNow_str a b c) hu he h
    refine ⟨r', by simp [Instr.findKey, run_und hT w hk, h1], h2, fun j v hj => ?_⟩
    obtain ⟨e, g1, _, g2⟩ := h3 j v hj
    exact ⟨e, g1, g2⟩
  | ptr =>
    obtain ⟨⟨e, he'⟩, hk⟩ := hk
    obtain ⟨r', h1, h2, h3⟩ := findAsking_ok R (fun a b c => eqV_ok R hT hk a b (keyEq_ptr c)) hu he h
    refine ⟨r', ?_, h2, fun j v hj => ?_⟩
    · cases rs with
      | nil =>
        simp [Instr.findAsking] at h1
        simp [Instr.findKey, run_und hT w he', Instr.findNow, h1]
      | cons e0 rs0 =>
        have hn : Instr.findNow (.pointer e) x (e0 :: rs0) 0 = none := by
          simp only [Instr.findNow]
          have : Instr.sameNow (.pointer e) x e0.key = none := rfl
          rw [this]
        simp [Instr.findKey, run_und hT w he', hn, h1]
    · obtain ⟨e, g1, _, g2⟩ := h3 j v hj
      exact ⟨e, g1, g2⟩
  | pair =>
    obtain ⟨e, k, h0, he0, hs0⟩ := hk
    obtain ⟨r', h1, h2, h3⟩ := findAsking_ok R (fun a b c => equal_pair R hT h0 he0 hs0 a b c) hu he h
    refine ⟨r', ?_, h2, fun j v hj => ?_⟩
    · cases rs with
      | nil =>
        simp [Instr.findAsking] at h1
        simp [Instr.findKey, run_und hT w h0, Instr.findNow, h1]
      | cons e0 rs0 =>
        have hn : Instr.findNow (.array 2 e) x (e0 :: rs0) 0 = none := by
          simp only [Instr.findNow]
          have : Instr.sameNow (.array 2 e) x e0.key = none := rfl
          rw [this]
        simp [Instr.findKey, run_und hT w h0, hn, h1]
    · obtain ⟨e, g1, _, g2⟩ := h3 j v hj
      exact ⟨e, g1, g2⟩

theorem run_getMap {b clock : Nat} {res : Array MapEntry} (hb : w.heap[b]? = some (.map res clock)) : (getObj b).run P w = .ok (.map res clock) w := by
  simp [getObj, Sem.run, hb]
theorem lookup_ok (hT : TTok P T) {t k e : Nat} {z : V} {x i : Operand} {x' i' : Opd} {ok : Bool} (hu : T.und t = some (.map k e)) (hz : T.zero e = some z) (hx : opd x = some x') (hi : opd i = some i') :
    ReadOk P cx G ρ (.lookup t x i ok) (oLookup cx (keyKind T k) z x' i' ok) := by
  intro oper ho Φ H w env a v R hE hv
  unfold oLookup at hv
  split at hv
  · cases hv
  · rename_i m hm
    split at hv
    · cases hv
    · rename_i u hui
      split at hv
      · cases hv
      · rename_i es hes
        cases hno : (keyKind T k).isNo u with
        | true => rw [hno] at hv; cases hv
        | false =>
          rw [hno] at hv
          simp only [cond_false] at hv
          have r1 := eval_ok hE hx hm
          have r2 := eval_ok hE hi hui
          have hk := keyKind_ok (T := T) k
          obtain ⟨zv, hz1, hz2⟩ := zero_ok hT hz w
          unfold lookupV at hv
          have main : ∀ (rs : List MapEntry), EntR ρ Φ es rs → (∃ n y, (Instr.findKey k (a.eval i) rs).run P w = .ok (some (n, y)) w ∧ VR ρ Φ v (if ok then .tuple #[y, .bool true] else y)) ∨
              ((Instr.findKey k (a.eval i) rs).run P w = .ok none w ∧ VR ρ Φ v (if ok then .tuple #[zv, .bool false] else zv)) := by
            intro rs he
            split at hv
            · cases hv
            · rename_i n u' hf
              obtain ⟨r', k1, k2, k3⟩ := findKey_ok R hT hk hno r2 he hf
              cases r' with
              | none => exact k2.elim
              | some r' =>
                obtain ⟨n', y⟩ := r'
                obtain ⟨rfl, k2⟩ := k2
                refine .inl ⟨n, y, k1, ?_⟩
                cases ok <;> simp at hv <;> subst hv
                · exact k2
                · exact .tuple (xs := #[y, .bool true]) (.cons k2 (.cons (.bool true) .nil))
            · rename_i hf
              obtain ⟨r', k1, k2, k3⟩ := findKey_ok R hT hk hno r2 he hf
              cases r' with
              | some r' => exact k2.elim
              | none =>
                refine .inr ⟨k1, ?_⟩
                cases ok <;> simp at hv <;> subst hv
                · exact hz2 ρ Φ
                · exact .tuple (xs := #[zv, .bool false]) (.cons (hz2 ρ Φ) (.cons (.bool false) .nil))
          rcases mapOf_ok R r1 hes with ⟨hX, rfl⟩ | ⟨b, res, clock, hX, hb, he⟩
          · rcases main [] .nil with ⟨n, y, k1, k2⟩ | ⟨k1, k2⟩
            · exact ⟨_, by simp [execOp, ho, Instr.lookup, run_und hT w hu, hX, checkKey_ok hT hk hno _ r2, k1], k2⟩
            · exact ⟨_, by simp [execOp, ho, Instr.lookup, run_und hT w hu, hX, checkKey_ok hT hk hno _ r2, k1, hz1], k2⟩
          · rcases main _ he with ⟨n, y, k1, k2⟩ | ⟨k1, k2⟩
            · exact ⟨_, by simp [execOp, ho, Instr.lookup, run_und hT w hu, hX, run_getMap hb, checkKey_ok hT hk hno _ r2, k1], k2⟩
            · exact ⟨_, by simp [execOp, ho, Instr.lookup, run_und hT w hu, hX, run_getMap hb, checkKey_ok hT hk hno _ r2, k1, hz1], k2⟩
end Go.Sk

/-
  SK, PART S3. Maps: writing, and going over at most one entry.
-/
namespace Go.Sk
variable {P : Program} {cx : Cx} {G : Nat} {ρ : Nat → Int} {T : TT} {Φ : Emb} {H : Heap} {w : World}

theorem Rel.reset (R : Rel cx G ρ Φ H w) {f : Nat} {o o' : Obj} {l : Loc} {ro : Go.Obj} (hf : H.objs.get f = some o) (hl : Φ f 0 = some l)
    (ho : ObjR ρ Φ { w with heap := w.heap.setIfInBounds l.blk ro } f o') :
    Rel cx G ρ Φ (H.setObj f o') { w with heap := w.heap.setIfInBounds l.blk ro } ∧ Ext Φ H w Φ (H.setObj f o') { w with heap := w.heap.setIfInBounds l.blk ro } := by
  refine R.change (f := f) (o' := o') rfl (Nat.le_refl _) (R.old f o hf) (.inl (by rw [hf]; simp)) (fun _ _ _ h => h) (fun _ _ => rfl) (by simp) ?_ ?_ ?_ (fun h => by rw [hf] at h; cases h) ho ⟨rfl, rfl, rfl, Nat.le_refl _⟩ (fun b h1 h2 => by simp at h2; omega)
  · intro b _ h
    simp only
    rw [Array.getElem?_setIfInBounds_ne (h 0 l hl)]
  · intro e l' h1 h2; rw [h1] at h2; cases h2
  · intro e l1 e' l2 h1 h2 hb
    exact (R.inj _ _ _ _ _ _ h1 h2 hb).2

theorem EntR.get {es : List (V × V × Nat)} {rs : List MapEntry} (h : EntR ρ Φ es rs) : ∀ {i : Nat} {k v : V} {b : Nat}, es[i]? = some (k, v, b) → ∃ r : MapEntry, rs[i]? = some r ∧ VR ρ Φ k r.key ∧ VR ρ Φ v r.val ∧ r.born = b := by
  induction h with
  | nil => intro i k v b h; simp at h
  | cons hk hv _ ih =>
    intro i k v b h
    cases i with
    | zero =>
      simp only [List.getElem?_cons_zero, Option.some.injEq, Prod.mk.injEq] at h
      obtain ⟨rfl, rfl, rfl⟩ := h
      exact ⟨_, rfl, hk, hv, rfl⟩
    | succ i => obtain ⟨r, h1, h2⟩ := ih (by simpa using h); exact ⟨r, by simpa using h1, h2⟩
theorem EntR.setAt {es : List (V × V × Nat)} {rs : List MapEntry} (h : EntR ρ Φ es rs) {k x : V} {K X : Value} (hk : VR ρ Φ k K) (hx : VR ρ Φ x X) : ∀ (i : Nat),
    EntR ρ Φ (setAt es i fun e => (k, x, e.2.2)) (rs.modify i fun e => { e with key := K, val := X }) := by
  induction h with
  | nil => intro i; cases i <;> exact .nil
  | cons hk' hv' h' ih =>
    intro i
    cases i with
    | zero => exact .cons hk hx h'
    | succ i => exact .cons hk' hv' (ih i)
theorem EntR.snoc {es : List (V × V × Nat)} {rs : List MapEntry} (h : EntR ρ Φ es rs) {k x : V} {K X : Value} (hk : VR ρ Φ k K) (hx : VR ρ Φ x X) (b : Nat) :
    EntR ρ Φ (es ++ [(k, x, b)]) (rs ++ [⟨K, X, b⟩]) := by
  induction h with
  | nil => exact .cons hk hx .nil
  | cons hk' hv' _ ih => exact .cons hk' hv' ih

theorem run_setAny {b c : Nat} {res : Array MapEntry} {ro : Go.Obj} (hb : w.heap[b]? = some (.map res c)) : (setObj b ro).run P w = .ok () { w with heap := w.heap.setIfInBounds b ro } := by
  simp [setObj, Sem.run, hb]

theorem mapUpdate_ok (hT : TTok P T) {t kt e : Nat} {m k x : Operand} {m' k' x' : Opd} (hu : T.und t = some (.map kt e)) (hm : opd m = some m') (hk : opd k = some k') (hx : opd x = some x') :
    EffOk P cx G ρ (.mapUpdate t m k x) (oMapUpdate cx (keyKind T kt) m' k' x') := by
  intro oper ho Φ H w env a v H' R hE hF hv
  unfold oMapUpdate at hv
  split at hv
  · cases hv
  · rename_i mv hmv
    split at hv
    · cases hv
    · rename_i kv hkv
      split at hv
      · cases hv
      · rename_i xv hxv
        cases hno : (keyKind T kt).isNo kv with
        | true => rw [hno] at hv; cases hv
        | false =>
          rw [hno] at hv
          simp only [cond_false] at hv
          obtain ⟨hd, rfl⟩ := done_some hv
          clear hv
          have r1 := eval_ok hE hm hmv
          have r2 := eval_ok hE hk hkv
          have r3 := eval_ok hE hx hxv
          have hkk := keyKind_ok (T := T) kt
          unfold updateV at hd
          split at hd
          · rename_i r
            split at hd
            · rename_i es clock hobj
              generalize hX : a.eval m = X at *
              cases r1 with
              | @map _ l hl =>
                obtain ⟨h0, l', res, g1, g2, g3, g4⟩ := R.obj _ _ hobj
                rw [hl] at g1
                obtain rfl : l = l' := by simpa using g1
                have fin : ∀ (es' : List (V × V × Nat)) (res' : Array MapEntry) (clock' : Nat), H.setObj r (.map es' clock') = H' → EntR ρ Φ es' res'.toList →
                    (Instr.mapUpdate t (.map (some l.blk)) (a.eval k) (a.eval x)).run P w = .ok () { w with heap := w.heap.setIfInBounds l.blk (.map res' clock') } →
                    ∃ nx w' Φ' y, (execOp a.eval oper).run P w = .ok nx w' ∧ (nx = .value y ∨ (nx = .skip ∧ y = undef)) ∧ VR ρ Φ' (.tuple []) y ∧ Rel cx G ρ Φ' H' w' ∧ Ext Φ H w Φ' H' w' := by
                  intro es' res' clock' hH he hrun
                  subst hH
                  have hlt := (Array.getElem?_eq_some_iff.1 g3).1
                  obtain ⟨q1, q2⟩ := R.reset (o' := .map es' clock') (ro := .map res' clock') hobj hl ⟨h0, l, res', hl, g2, by simp [hlt], he⟩
                  exact ⟨.skip, _, Φ, undef, by simp [execOp, ho, hX, hrun], .inr ⟨rfl, rfl⟩, undef_ok, q1, q2⟩
                split at hd
                · cases hd
                · rename_i i y hf
                  simp only [Option.some.injEq] at hd
                  obtain ⟨r', k1, k2, k3⟩ := findKey_ok R hT hkk hno r2 g4 hf
                  obtain ⟨e0, j1, j2, j3⟩ := k3 _ _ rfl
                  cases r' with
                  | none => exact k2.elim
                  | some r' =>
                    obtain ⟨i', y'⟩ := r'
                    obtain ⟨rfl, k2⟩ := k2
                    refine fin _ (res.modify i fun e => { e with key := a.eval k, val := a.eval x }) clock hd ?_ ?_
                    · rw [Array.toList_modify]
                      exact g4.setAt r2 r3 i
                    · have hget : ((res[i]?).map (·.key)).getD (a.eval k) = e0.key := by
                        rw [← Array.getElem?_toList, j1]; rfl
                      have hkeep : (Instr.keyThatStays e0.key (a.eval k)).run P w = .ok (a.eval k) w := by
                        simp [Instr.keyThatStays, j3]
                      simp only [Instr.mapUpdate, Sem.run_bind, run_und hT w hu, Result.andThen_ok, run_getMap g3, checkKey_ok hT hkk hno _ r2, k1, hget, hkeep]
                      exact run_setAny g3
                · rename_i hf
                  simp only [Option.some.injEq] at hd
                  obtain ⟨r', k1, k2, k3⟩ := findKey_ok R hT hkk hno r2 g4 hf
                  cases r' with
                  | some r' => exact k2.elim
                  | none =>
                    refine fin _ (res.push { key := a.eval k, val := a.eval x, born := clock }) (clock + 1) hd ?_ ?_
                    · rw [Array.toList_push]
                      exact g4.snoc r2 r3 clock
                    · simp only [Instr.mapUpdate, Sem.run_bind, run_und hT w hu, Result.andThen_ok, run_getMap g3, checkKey_ok hT hkk hno _ r2, k1]
                      exact run_setAny g3
            · cases hd
          · cases hd

theorem range_ok (hT : TTok P T) {t k e : Nat} {x : Operand} {x' : Opd} (hu : T.und t = some (.map k e)) (hx : opd x = some x') : EffOk P cx G ρ (.range t x) (oRange x') := by
  intro oper ho Φ H w env a v H' R hE hF hv
  unfold oRange at hv
  have fin : ∀ (o : Obj) (ro : Go.Obj), v = .iter H.next → H' = H.new o → (∀ Φ', (∀ e, 0 < e → Φ' H.next e = none) → Φ.le Φ' → ∀ l : Loc, l.row = false → l.blk = w.heap.size → Φ' H.next 0 = some l → ObjR ρ Φ' { w with heap := w.heap.push ro } H.next o) →
      (Instr.range t (a.eval x)).run P w = .ok (.pointer (some ⟨w.heap.size, 0, none⟩)) { w with heap := w.heap.push ro } →
      ∃ nx w' Φ' y, (execOp a.eval oper).run P w = .ok nx w' ∧ (nx = .value y ∨ (nx = .skip ∧ y = undef)) ∧ VR ρ Φ' v y ∧ Rel cx G ρ Φ' H' w' ∧ Ext Φ H w Φ' H' w' := by
    intro o ro hv1 hH ho' hrun
    subst hv1; subst hH
    have hfree : ∀ e, Φ H.next e = none := fun e => hF _ e (Nat.le_refl _) (by simp [Heap.new])
    obtain ⟨q1, q2⟩ := R.new (o := o) (ro := ro) (l := ⟨w.heap.size, 0, 0, false⟩) hfree rfl
      (ho' _ (fun e he => by rw [Emb.set_other _ _ _ _ (fun h => by omega)]; exact hfree e) (Emb.le_set _ (hfree 0)) _ rfl rfl (Emb.set_same _ _ _ _))
    exact ⟨.value _, _, _, _, by simp [execOp, ho, hrun], .inl rfl, .iter (l := ⟨w.heap.size, 0, 0, false⟩) (Emb.set_same _ _ _ _), q1, q2⟩
  split at hv
  · rename_i he
    have r := eval_ok hE hx he
    generalize hX : a.eval x = X at *
    simp at hv
    obtain ⟨rfl, rfl⟩ := hv
    cases r
    refine fin _ (.mapIter none 0 #[] 0) rfl rfl ?_ (by simp [Instr.range, run_und hT w hu])
    intro Φ' h0 _ l h1 h2 h3
    exact ⟨h0, l, h3, h1, by rw [h2]; simp⟩
  · rename_i m he
    split at hv
    · rename_i es clock hobj
      have r := eval_ok hE hx he
      generalize hX : a.eval x = X at *
      simp at hv
      obtain ⟨rfl, rfl⟩ := hv
      cases r with
      | @map _ lm hlm =>
        obtain ⟨h0, l', res, g1, g2, g3, g4⟩ := R.obj _ _ hobj
        rw [hlm] at g1
        obtain rfl : lm = l' := by simpa using g1
        refine fin _ (.mapIter (some lm.blk) clock #[] clock) rfl rfl ?_ (by simp [Instr.range, run_und hT w hu, run_getMap g3])
        intro Φ' h0 hle l h1 h2 h3
        exact ⟨h0, l, lm, h3, h1, hle _ _ _ hlm, by rw [h2]; simp⟩
    · cases hv
  · cases hv

theorem run_getIter {b s c : Nat} {m : Option Nat} {seen : Array Nat} (hb : w.heap[b]? = some (.mapIter m s seen c)) : (getObj b).run P w = .ok (.mapIter m s seen c) w := by
  simp [getObj, Sem.run, hb]

theorem EntR.find {es : List (V × V × Nat)} {rs : List MapEntry} (h : EntR ρ Φ es rs) (b : Nat) {e : V × V × Nat} (hf : es.find? (fun e => Nat.beq e.2.2 b) = some e) :
    ∃ r : MapEntry, rs.find? (fun e => e.born == b) = some r ∧ VR ρ Φ e.1 r.key ∧ VR ρ Φ e.2.1 r.val := by
  induction h with
  | nil => simp at hf
  | @cons k v b' x y es rs hk hv _ ih =>
    simp only [List.find?_cons] at hf ⊢
    rw [nbeq] at hf
    by_cases hb : b' = b
    · subst hb
      simp at hf
      subst hf
      exact ⟨_, by simp; rfl, hk, hv⟩
    · have hbb : (b' == b) = false := by simpa using hb
      simp only [hb, decide_false] at hf
      simp only [hbb]
      exact ih hf

theorem entry_ok {x : Operand} {x' : Opd} (hx : opd x = some x') : EffOk P cx G ρ (.entry x) (oEntry x') := by
  intro oper ho Φ H w env a v H' R hE hF hv
  unfold oEntry at hv
  split at hv
  · rename_i u he
    split at hv
    · rename_i q hq
      simp at hv
      obtain ⟨rfl, rfl⟩ := hv
      have r := eval_ok hE hx he
      generalize hX : a.eval x = X at *
      unfold entryV at hq
      split at hq
      · rename_i r0
        split at hq
        · rename_i m since seen stepped hobj
          split at hq
          · rename_i es clock hmobj
            cases r with
            | @iter _ l hl =>
              obtain ⟨_, l1, lm, g1, g2, g3, g4⟩ := R.obj _ _ hobj
              rw [hl] at g1
              obtain rfl : l = l1 := by simpa using g1
              obtain ⟨_, l2, res, j1, j2, j3, j4⟩ := R.obj _ _ hmobj
              rw [g3] at j1
              obtain rfl : lm = l2 := by simpa using j1
              rw [nbeq clock stepped, bif_ite] at hq
              split at hq
              · rename_i hc
                subst hc
                split at hq
                · cases hq
                · rename_i b hb
                  split at hq
                  · rename_i e hfe
                    simp at hq
                    subst hq
                    obtain ⟨re, k1, k2, k3⟩ := j4.find b hfe
                    refine ⟨.value (.tuple #[re.key, re.val]), w, Φ, _, ?_, .inl rfl, .tuple (xs := #[re.key, re.val]) (.cons k2 (.cons k3 .nil)), R, Ext.refl _ _ _⟩
                    have hback : seen.toArray.back? = some b := by rw [List.back?_toArray]; exact hb
                    have hfind : res.find? (fun e => e.born == b) = some re := by rw [← Array.find?_toList]; exact k1
                    simp [execOp, ho, hX, Instr.entry, run_getIter g4, hback, run_getMap j3, hfind]
                  · cases hq
              · cases hq
          · cases hq
        · cases hq
      · cases hq
    · cases hv
  · cases hv
end Go.Sk

/-
  SK, PART S4. Stepping over a map.
-/
namespace Go.Sk
variable {P : Program} {cx : Cx} {G : Nat} {ρ : Nat → Int} {T : TT} {Φ : Emb} {H : Heap} {w : World}

theorem EntR.filter {es : List (V × V × Nat)} {rs : List MapEntry} (h : EntR ρ Φ es rs) (p : Nat → Bool) : EntR ρ Φ (es.filter fun e => p e.2.2) (rs.filter fun e => p e.born) := by
  induction h with
  | nil => exact .nil
  | @cons k v b x y es rs hk hv _ ih =>
    simp only [List.filter_cons]
    cases p b with
    | true => simpa using .cons hk hv ih
    | false => simpa using ih
theorem EntR.all {es : List (V × V × Nat)} {rs : List MapEntry} (h : EntR ρ Φ es rs) (p : Nat → Bool) : (es.all fun e => p e.2.2) = rs.all fun e => p e.born := by
  induction h with
  | nil => rfl
  | cons hk hv _ ih => simp only [List.all_cons, ih]

theorem run_setIter {b s c : Nat} {m : Option Nat} {seen : Array Nat} {ro : Go.Obj} (hb : w.heap[b]? = some (.mapIter m s seen c)) : (setObj b ro).run P w = .ok () { w with heap := w.heap.setIfInBounds b ro } := by
  simp [setObj, Sem.run, hb]

theorem run_next_none {r m since last : Nat} {seen : Array Nat} {res : Array MapEntry} {ty : TypeId} (hi : w.heap[r]? = some (.mapIter (some m) since seen last)) (hm : w.heap[m]? = some (.map res last))
    (hg : (!seen.isEmpty && !res.isEmpty && res.all fun e => decide (e.born ≥ last)) = false) (hl : (res.filter fun e => !seen.contains e.born) = #[]) :
    (Instr.next (.pointer (some ⟨r, 0, none⟩)) false ty).run P w = .ok (.tuple #[.bool false]) w := by
  simp only [Instr.next, Sem.run_bind, run_getIter hi, Result.andThen_ok, run_getMap hm, hg, hl, Bool.false_eq_true, if_false]
  simp [Question.forced]
theorem run_next_one {r m since last : Nat} {seen : Array Nat} {res : Array MapEntry} {e : MapEntry} {ty : TypeId} (hi : w.heap[r]? = some (.mapIter (some m) since seen last)) (hm : w.heap[m]? = some (.map res last))
    (hg : (!seen.isEmpty && !res.isEmpty && res.all fun e => decide (e.born ≥ last)) = false) (hl : (res.filter fun e => !seen.contains e.born) = #[e]) (hlt : e.born < since) :
    (Instr.next (.pointer (some ⟨r, 0, none⟩)) false ty).run P w = .ok (.tuple #[.bool true, e.key, e.val]) { w with heap := w.heap.setIfInBounds r (.mapIter (some m) since (seen.push e.born) last) } := by
  simp only [Instr.next, Sem.run_bind, run_getIter hi, Result.andThen_ok, run_getMap hm, hg, hl, Bool.false_eq_true, if_false]
  have : ¬ since ≤ e.born := by omega
  simp [Question.forced, hlt, this, run_setIter hi]
theorem next_ok {x : Operand} {x' : Opd} (hx : opd x = some x') : EffOk P cx G ρ (.next x false) (oNext x') := by
  intro oper ho Φ H w env a v H' R hE hF hv
  unfold oNext at hv
  split at hv
  · rename_i u he
    have r := eval_ok hE hx he
    generalize hX : a.eval x = X at *
    unfold nextV at hv
    split at hv
    · rename_i r0
      split at hv
      · rename_i since seen stepped hobj
        simp at hv
        obtain ⟨rfl, rfl⟩ := hv
        cases r with
        | @iter _ l hl =>
          obtain ⟨_, l1, g1, g2, g3⟩ := R.obj _ _ hobj
          rw [hl] at g1
          obtain rfl : l = l1 := by simpa using g1
          exact ⟨.value (.tuple #[.bool false]), w, Φ, _, by simp [execOp, ho, hX, Instr.next, run_getIter g3], .inl rfl, .tuple (xs := #[.bool false]) (.cons (.bool false) .nil), R, Ext.refl _ _ _⟩
      · rename_i m since seen last hobj
        split at hv
        · rename_i es clock hmobj
          cases r with
          | @iter _ l hl =>
            obtain ⟨h0, l1, lm, g1, g2, g3, g4⟩ := R.obj _ _ hobj
            rw [hl] at g1
            obtain rfl : l = l1 := by simpa using g1
            obtain ⟨_, l2, res, j1, j2, j3, j4⟩ := R.obj _ _ hmobj
            rw [g3] at j1
            obtain rfl : lm = l2 := by simpa using j1
            cases hc : (Nat.beq last clock && !(!seen.isEmpty && !es.isEmpty && es.all fun e => Nat.ble last e.2.2)) with
            | false => rw [hc] at hv; cases hv
            | true =>
              rw [hc] at hv
              simp only [cond_true] at hv
              simp only [Bool.and_eq_true, nbeq, decide_eq_true_eq, Bool.not_eq_true'] at hc
              obtain ⟨rfl, hc⟩ := hc
              have hf := j4.filter fun b => !seen.contains b
              have hguard : (!seen.toArray.isEmpty && !res.isEmpty && res.all fun e => decide (e.born ≥ last)) = false := by
                rw [← hc]
                have h1 := j4.all fun b => Nat.ble last b
                rw [h1]
                have h2 : es.isEmpty = res.isEmpty := by
                  rw [← Array.isEmpty_toList]
                  generalize res.toList = L at j4
                  cases j4 <;> rfl
                rw [h2, List.isEmpty_toArray]
                congr 1
                rw [← Array.all_toList]
                congr 1
                funext e
                rw [nble]
              have hleft : (res.filter fun e => !seen.toArray.contains e.born).toList = res.toList.filter fun e => !seen.contains e.born := by
                rw [Array.toList_filter]
                congr 1
                funext e
                simp
              split at hv
              · rename_i hnil
                simp at hv
                obtain ⟨rfl, rfl⟩ := hv
                rw [hnil] at hf
                generalize hq : res.toList.filter (fun e => !seen.contains e.born) = L at hf hleft
                cases hf
                have hl0 : (res.filter fun e => !seen.toArray.contains e.born) = #[] := by apply Array.ext'; simpa using hleft
                refine ⟨.value (.tuple #[.bool false]), w, Φ, _, ?_, .inl rfl, .tuple (xs := #[.bool false]) (.cons (.bool false) .nil), R, Ext.refl _ _ _⟩
                simp only [execOp, ho, hX]
                rw [Sem.run_bind, run_next_none g4 j3 hguard hl0]
                rfl
              · rename_i e hone
                simp only [nblt, bif_ite] at hv
                split at hv
                · rename_i hlt
                  simp at hv
                  obtain ⟨rfl, rfl⟩ := hv
                  rw [hone] at hf
                  generalize hq : res.toList.filter (fun e => !seen.contains e.born) = L at hf hleft
                  obtain ⟨k, v, b⟩ := e
                  cases hf with
                  | @cons _ _ _ x1 y1 _ rs1 hk hv1 hnil =>
                    cases hnil
                    have hl0 : (res.filter fun e => !seen.toArray.contains e.born) = #[⟨x1, y1, b⟩] := by apply Array.ext'; simpa using hleft
                    have hltb := (Array.getElem?_eq_some_iff.1 g4).1
                    obtain ⟨q1, q2⟩ := R.reset (o' := .miter (some m) since (seen ++ [b]) last) (ro := .mapIter (some lm.blk) since (seen.toArray.push b) last) hobj hl
                      ⟨h0, l, lm, hl, g2, g3, by simp [hltb]⟩
                    refine ⟨.value (.tuple #[.bool true, x1, y1]), _, Φ, _, ?_, .inl rfl, .tuple (xs := #[.bool true, x1, y1]) (.cons (.bool true) (.cons hk (.cons hv1 .nil))), q1, q2⟩
                    simp only [execOp, ho, hX]
                    rw [Sem.run_bind, run_next_one g4 j3 hguard hl0 hlt]
                    rfl
                · cases hv
              · cases hv
        · cases hv
      · cases hv
    · cases hv
  · cases hv
end Go.Sk

/-
  SK, PART W. The two functions without a body.
-/
import Derived.Test.YtmncnjolillclaaGreatDoorS08
import Derived.Lib.Bytealg
namespace Go.Sk
variable {P : Program} {cx : Cx}

theorem u8_beq {b c : Nat} (hb : b < 256) (hc : c ≤ 255) (x : UInt8) (hx : x.toNat = b) : (x == UInt8.ofNat c) = Nat.beq b c := by
  rw [nbeq, Bool.eq_iff_iff]
  simp only [beq_iff_eq, decide_eq_true_eq]
  constructor
  · rintro rfl; rw [← hx]; simp; omega
  · rintro rfl; apply UInt8.toNat_inj.1; rw [hx]; simp; omega
theorem countNat_ok {c : Nat} (hc : c ≤ 255) : ∀ (l : List UInt8) (n : Nat), countNat c (l.map UInt8.toNat) n = n + l.count (UInt8.ofNat c)
  | [], n => by simp [countNat]
  | b :: l, n => by
    have hb : b.toNat < 256 := b.toNat_lt
    rw [List.map_cons, countNat, countNat_ok hc l, List.count_cons, u8_beq hb hc b rfl]
    cases Nat.beq b.toNat c <;> simp <;> omega
theorem findNat_ok {c : Nat} (hc : c ≤ 255) : ∀ (l : List UInt8) (i : Nat), (match findNat c (l.map UInt8.toNat) i with | some j => (j : Int) | none => -1) = if Lib.indexByte l (UInt8.ofNat c) = -1 then -1 else Lib.indexByte l (UInt8.ofNat c) + i
  | [], i => by simp [findNat, Lib.indexByte]
  | b :: l, i => by
    have hb : b.toNat < 256 := b.toNat_lt
    have ih := findNat_ok hc l (i + 1)
    have hge := Lib.indexByte_ge l (UInt8.ofNat c)
    rw [List.map_cons, findNat]
    unfold Lib.indexByte
    rw [u8_beq hb hc b rfl]
    cases Nat.beq b.toNat c with
    | true => simp
    | false =>
      simp only [cond_false, Bool.false_eq_true, if_false]
      rw [ih]
      by_cases h : Lib.indexByte l (UInt8.ofNat c) = -1
      · simp [h]
      · have h' : (Lib.indexByte l (UInt8.ofNat c) == -1) = false := by simpa using h
        rw [if_neg h, h']
        simp only [Bool.false_eq_true, if_false]
        rw [if_neg (by omega)]
        push_cast
        omega

/-- What the program holds for the two. -/
def ExtFns (P : Program) (cx : Cx) : Prop := ∀ f k, cx.ext f = some k → ∃ fn, P.funcs[f]? = some fn ∧ (fn.name == "runtime.NumGoroutine") = false ∧ fn.body.isNone = true ∧ Extern.findNext fn = none ∧
  Extern.find fn = some (match k with | .count => Extern.BytealgCount.count | .indexByte => Extern.BytealgIndexByte.indexByte)

theorem extOk_of (h : ExtFns P cx) : ExtOk P cx := by
  intro f k hk ρ Φ args xs v w hA hv
  obtain ⟨fn, h1, h2, h3, h4, h5⟩ := h f k hk
  unfold extV at hv
  split at hv
  · rename_i s c
    simp only [nble, bif_ite] at hv
    split at hv
    · rename_i hc
      obtain ⟨l⟩ := xs
      simp only at hA
      cases hA with
      | @cons _ x1 _ _ a1 a2 =>
        cases a2 with
        | @cons _ x2 _ _ a2 a3 =>
          cases a3
          cases a2
          generalize hq : V.str s = q at a1
          cases a1 with
          | str sb =>
            simp only [V.str.injEq] at hq
            subst hq
            have hcc : (Int.ofNat c).toNat.toUInt8 = UInt8.ofNat c := rfl
            cases k with
            | count =>
              simp only [Option.some.injEq] at hv
              subst hv
              refine ⟨.int .i64 (Lib.countByte sb.data.toList (Int.ofNat c).toNat.toUInt8), ?_, ?_⟩
              · rw [run_callFunc_extern h1 h2 h3 h4 h5]
                have := Lib.run_countString (P := P) sb (Int.ofNat c) w
                simp only [IE.ev]
                rw [this]; rfl
              · rw [countNat_ok hc, Nat.zero_add, hcc]
                exact .int .i64 (.lit _)
            | indexByte =>
              have hf := findNat_ok hc sb.data.toList 0
              refine ⟨.int .i64 (Lib.indexByte sb.data.toList (Int.ofNat c).toNat.toUInt8), ?_, ?_⟩
              · rw [run_callFunc_extern h1 h2 h3 h4 h5]
                have := Lib.run_indexByteString (P := P) sb (Int.ofNat c) w
                simp only [IE.ev]
                rw [this]; rfl
              · rw [hcc]
                have hz : (if Lib.indexByte sb.data.toList (UInt8.ofNat c) = -1 then (-1 : Int) else Lib.indexByte sb.data.toList (UInt8.ofNat c) + (0 : Nat)) = Lib.indexByte sb.data.toList (UInt8.ofNat c) := by
                  split
                  · rename_i h; exact h.symm
                  · simp
                rw [hz] at hf
                rw [← hf]
                simp only at hv
                split at hv
                · rename_i i hi
                  simp only [Option.some.injEq] at hv
                  subst hv
                  rw [hi]
                  exact .int .i64 (.lit _)
                · rename_i hi
                  simp only [Option.some.injEq] at hv
                  subst hv
                  rw [hi]
                  exact .int .i64 (.lit _)
          | _ => cases hq
    · cases hv
  · cases hv
end Go.Sk

/-
  SK, PART Y. The table of methods: those with a receiver that is a pointer, of a pointer's type.
-/
namespace Go.Sk
variable {P : Program} {cx : Cx} {T : TT}

def methT (T : TT) (t : Nat) (m : String) : Option Nat := match T t with
  | some i => match T.und t with
    | some (.pointer _) => match i.methods.find? (fun x => x.name == m) with
      | some x => match x.func with
        | some (f, true) => bif x.path.isEmpty then some f else none
        | _ => none
      | none => none
    | _ => none
  | none => none

theorem methT_ok (hT : TTok P T) (hc : cx.meth = methT T) : MethOk P cx := by
  intro t m f h
  rw [hc] at h
  unfold methT at h
  split at h
  · rename_i i hi
    split at h
    · rename_i e hu
      split at h
      · rename_i x hx
        split at h
        · rename_i f' hf
          cases hp : x.path.isEmpty with
          | false => rw [hp] at h; cases h
          | true =>
            rw [hp] at h
            simp at h; subst h
            have hp' : x.path.toList = [] := by simpa using hp
            have hd : 0 < Made.depth := by decide
            obtain ⟨k, hk⟩ : ∃ k, P.types.size + Made.depth = k + 1 := ⟨P.types.size + Made.depth - 1, by omega⟩
            rw [hk]
            constructor
            · intro v w
              simp [method, run_info hT w hi, hx, hp', follow, hf, receiverAt, run_und hT w hu, Place.get]
            · intro v w
              simp [nilAhead, run_info hT w hi, hx, hp', followBlind, hf]
        · cases h
      · cases h
    · cases h
  · cases h
end Go.Sk

/-
  SK, PART Z. Tables from lists.
-/
namespace Go.Sk
variable {P : Program} {cx : Cx} {T : TT}

noncomputable def trieOf {α : Type} : List α → Nat → Tr α → Tr α
  | [], _, t => t
  | x :: l, i, t => trieOf l (i + 1) (t.put i (some x))
theorem trieOf_get {α : Type} : ∀ (l : List α) (i : Nat) (e : Tr α) (t : Nat), (trieOf l i e).get t = if i ≤ t ∧ t < i + l.length then l[t - i]? else e.get t
  | [], i, e, t => by
    rw [trieOf, if_neg (by simp)]
  | v :: l, i, e, t => by
    rw [trieOf, trieOf_get l]
    by_cases h1 : i + 1 ≤ t ∧ t < i + 1 + l.length
    · rw [if_pos h1, if_pos (by simp; omega)]
      obtain ⟨j, rfl⟩ : ∃ j, t = i + 1 + j := ⟨t - (i + 1), by omega⟩
      rw [show i + 1 + j - (i + 1) = j by omega, show i + 1 + j - i = j + 1 by omega]
      simp
    · rw [if_neg h1, Tr.get_put]
      by_cases h2 : t = i
      · subst h2
        rw [if_pos rfl, if_pos (by simp)]
        simp
      · rw [if_neg h2, if_neg (by simp; omega)]
theorem trieOf_some {α : Type} {l : List α} {t : Nat} {x : α} (h : (trieOf l 0 .nil).get t = some x) : l[t]? = some x := by
  rw [trieOf_get] at h
  split at h
  · simpa using h
  · rw [Tr.get_nil] at h; cases h

theorem tt_ok {l : List TypeInfo} (hl : ∀ t i, l[t]? = some i → P.info? t = some i) (hT : T = (trieOf l 0 .nil).get) : TTok P T := by
  intro t i h
  rw [hT] at h
  exact hl t i (trieOf_some h)

theorem fns_ok {l : List Func} (hl : P.funcs.toList = l) (hn : ∀ fn ∈ l, fn.name ≠ "runtime.NumGoroutine") {fns : Nat → Option DFn}
    (hf : ∀ f d, fns f = some d → (trieOf (l.map (compFn T cx)) 0 .nil).get f = some (some d)) : FnsOk P cx T fns := by
  intro f d h
  have h1 := trieOf_some (hf f d h)
  rw [List.getElem?_map] at h1
  cases h2 : l[f]? with
  | none => rw [h2] at h1; cases h1
  | some fn =>
    rw [h2] at h1
    simp at h1
    refine ⟨fn, ?_, h1, hn fn (List.mem_of_getElem? h2)⟩
    rw [← Array.getElem?_toList, hl]; exact h2
end Go.Sk

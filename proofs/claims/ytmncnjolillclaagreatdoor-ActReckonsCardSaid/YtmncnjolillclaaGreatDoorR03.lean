/-
  ActReckons: for every a, b and op the call answers true, and leaves all that was there as it was. No condition.
-/
import Derived.Test.YtmncnjolillclaaGreatDoorS17
import Derived.Test.YtmncnjolillclaaGreatDoorR00
import Derived.Test.YtmncnjolillclaaGreatDoorR01
import Derived.Test.YtmncnjolillclaaGreatDoorR02
import Derived.Test.YtmncnjolillclaaGreatDoorR08
set_option maxRecDepth 100000
namespace Go.Proofs.YtmncnjolillclaaGreatDoor.actReckons
open Go.Sk Go.Sk.Seat Go.ChangeShapes Go.WideShapes Go.ChangeAt Go.RowKit

theorem five (op : Int) : pickV op 5 = 0 ∨ pickV op 5 = 1 ∨ pickV op 5 = 2 ∨ pickV op 5 = 3 ∨ pickV op 5 = 4 := by
  unfold pickV
  have h1 : 0 ≤ IntKind.u64.wrap op := by simp [IntKind.wrap, IntKind.bits, IntKind.signed]; omega
  have h2 : IntKind.u64.wrap 5 = 5 := by decide
  rw [h2]
  have h3 : (IntKind.u64.wrap op).tmod 5 = (IntKind.u64.wrap op) % 5 := Int.tmod_eq_emod_of_nonneg h1
  rw [h3]
  generalize IntKind.u64.wrap op = x at h1
  have h4 : IntKind.i64.wrap (x % 5) = x % 5 := by simp [IntKind.wrap, IntKind.bits, IntKind.signed]; omega
  rw [h4]
  omega

theorem walk (a b op : Int) (W : World) (hL : laidMetH Tryz.prog laidL W) : Calls Tryz.prog 4 #[.int .i64 a, .int .i64 b, .int .i64 op] W fun e W' => e = .returned (.bool true) ∧ Grew W W' := by
  have h5 : IntKind.u64.wrap 5 ≠ 0 := by decide
  let ρ : Nat → Int := fun i => match i with | 0 => a | 1 => b | _ => op
  have hargs : VRs ρ none0 rkA0 [.int .i64 a, .int .i64 b, .int .i64 op] := .cons (.int .i64 (.var 0)) (.cons (.int .i64 (.var 1)) (.cons (.int .i64 (.var 2)) .nil))
  have nil : ∀ o u v r, (o, u, v, r) ∈ ([] : List (BinOp × IE × IE × Bool)) → cmpInt o (u.ev ρ) (v.ev ρ) = r := fun _ _ _ _ h => (nomatch h)
  rcases five op with h | h | h | h | h
  · exact law_true (ρ := ρ) (xs := #[.int .i64 a, .int .i64 b, .int .i64 op]) rk0 h5 h nil hargs (hglob hL)
  · exact law_true (ρ := ρ) (xs := #[.int .i64 a, .int .i64 b, .int .i64 op]) rk1 h5 h nil hargs (hglob hL)
  · exact law_true (ρ := ρ) (xs := #[.int .i64 a, .int .i64 b, .int .i64 op]) rk2 h5 h nil hargs (hglob hL)
  · by_cases hb : b = 0
    · subst hb
      by_cases ha : a = 0
      · subst ha
        exact law_true (ρ := ρ) (xs := #[.int .i64 0, .int .i64 0, .int .i64 op]) rk3c h5 h nil (.cons (.int .i64 (.lit 0)) (.cons (.int .i64 (.lit 0)) (.cons (.int .i64 (.var 2)) .nil))) (hglob hL)
      · refine law_true (ρ := ρ) (xs := #[.int .i64 a, .int .i64 0, .int .i64 op]) rk3b h5 h ?_ (.cons (.int .i64 (.var 0)) (.cons (.int .i64 (.lit 0)) (.cons (.int .i64 (.var 2)) .nil))) (hglob hL)
        intro o u v r hm
        simp only [rkM3b, List.mem_cons, Prod.mk.injEq, List.not_mem_nil, or_false] at hm
        obtain ⟨rfl, rfl, rfl, rfl⟩ := hm
        simp only [cmpInt, IE.ev]
        exact beq_eq_false_iff_ne.2 (fun hh => ha hh.symm)
    · refine law_true (ρ := ρ) (xs := #[.int .i64 a, .int .i64 b, .int .i64 op]) rk3 h5 h ?_ hargs (hglob hL)
      intro o u v r hm
      simp only [rkM3, List.mem_cons, Prod.mk.injEq, List.not_mem_nil, or_false] at hm
      obtain ⟨rfl, rfl, rfl, rfl⟩ := hm
      simp only [cmpInt, IE.ev]
      exact beq_eq_false_iff_ne.2 hb
  · by_cases hb : b = 0
    · subst hb
      by_cases ha : a = 0
      · subst ha
        exact law_true (ρ := ρ) (xs := #[.int .i64 0, .int .i64 0, .int .i64 op]) rk4c h5 h nil (.cons (.int .i64 (.lit 0)) (.cons (.int .i64 (.lit 0)) (.cons (.int .i64 (.var 2)) .nil))) (hglob hL)
      · refine law_true (ρ := ρ) (xs := #[.int .i64 a, .int .i64 0, .int .i64 op]) rk4b h5 h ?_ (.cons (.int .i64 (.var 0)) (.cons (.int .i64 (.lit 0)) (.cons (.int .i64 (.var 2)) .nil))) (hglob hL)
        intro o u v r hm
        simp only [rkM4b, List.mem_cons, Prod.mk.injEq, List.not_mem_nil, or_false] at hm
        obtain ⟨rfl, rfl, rfl, rfl⟩ := hm
        simp only [cmpInt, IE.ev]
        exact beq_eq_false_iff_ne.2 (fun hh => ha hh.symm)
    · refine law_true (ρ := ρ) (xs := #[.int .i64 a, .int .i64 b, .int .i64 op]) rk4 h5 h ?_ hargs (hglob hL)
      intro o u v r hm
      simp only [rkM4, List.mem_cons, Prod.mk.injEq, List.not_mem_nil, or_false] at hm
      obtain ⟨rfl, rfl, rfl, rfl⟩ := hm
      simp only [cmpInt, IE.ev]
      exact beq_eq_false_iff_ne.2 hb
/-- What the walk gives, for every argument and every world that holds the tables. -/
theorem contract (H : Type) (enc : TypeId × Value → H) (W : World) (base : Nat) (args : Array Value) (ds gs : List (DataW H)) (before : List MemPlace)
    (hval : ∀ (j : Nat) t v, Tryz.f4.params[j]? = some t → args[j]? = some v → Value.okWide Tryz.prog W .any base t v)
    (hW : DataW.Whole enc Tryz.prog Tryz.f4.params.toList Rows.actReckonsSpec.vars false W args.toList ds gs before) (hL : laidMetH Tryz.prog Rows.actReckonsRow.laid W) :
    Calls Tryz.prog 4 args W fun e W' => ∃ v, e = .returned v ∧ Rows.actReckonsSpec.post enc Tryz.prog Tryz.f4 false true false false W args v W' := by
  have hW' := hW
  obtain ⟨p, q, hA0, hV, rfl, hfz, hnd⟩ := hW
  have hA : DataW.TrodAll enc Tryz.prog W 0 (fun _ => true) true Tryz.f4.params.toList args.toList ds p := hA0
  rw [Tryz.params4] at hA hval
  obtain ⟨v0, vs0, d0, ds0, p0, q0, hargs, rfl, rfl, h0, r0⟩ := trodAll_cons hA
  obtain ⟨v1, vs1, d1, ds1, p1, q1, rfl, rfl, rfl, h1, r1⟩ := trodAll_cons r0
  obtain ⟨v2, vs2, d2, ds2, p2, q2, rfl, rfl, rfl, h2, r2⟩ := trodAll_cons r1
  obtain ⟨rfl, rfl, rfl⟩ := trodAll_nil r2
  obtain rfl : args = #[v0, v1, v2] := by cases args; simp_all
  obtain ⟨rfl, rfl⟩ := trodVars_none hV
  obtain ⟨a, rfl, rfl, rfl, wa⟩ := open_int Tryz.underlying3 (hval 0 3 v0 rfl rfl) h0
  obtain ⟨b, rfl, rfl, rfl, wb⟩ := open_int Tryz.underlying3 (hval 1 3 v1 rfl rfl) h1
  obtain ⟨op, rfl, rfl, rfl, wop⟩ := open_int Tryz.underlying3 (hval 2 3 v2 rfl rfl) h2
  clear hA0
  simp only [List.append_nil] at hW'
  refine (walk a b op W hL).mono fun e W' ⟨he, hg⟩ => ?_
  subst he
  exact ⟨_, rfl, _, _, _, [], [], [], hW', trodAll_cons_mk (shut_bool Tryz.underlying4 _) trodAll_mk0,
    trodAll_cons_mk (shut_int Tryz.underlying3 wa) (trodAll_cons_mk (shut_int Tryz.underlying3 wb) (trodAll_cons_mk (shut_int Tryz.underlying3 wop) trodAll_mk0)), rfl, kept_of hg _, fun h => (nomatch h)⟩

end Go.Proofs.YtmncnjolillclaaGreatDoor.actReckons

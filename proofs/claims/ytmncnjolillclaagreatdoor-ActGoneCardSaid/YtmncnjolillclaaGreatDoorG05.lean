/-
  ActGone: for every n and how the call answers true, and leaves all that was there as it was. No condition.
-/
import Derived.Test.YtmncnjolillclaaGreatDoorS17
import Derived.Test.YtmncnjolillclaaGreatDoorG00
import Derived.Test.YtmncnjolillclaaGreatDoorG01
import Derived.Test.YtmncnjolillclaaGreatDoorG02
import Derived.Test.YtmncnjolillclaaGreatDoorG03
import Derived.Test.YtmncnjolillclaaGreatDoorG04
set_option maxRecDepth 100000
namespace Go.Proofs.YtmncnjolillclaaGreatDoor.actGone
open Go.Sk Go.Sk.Seat Go.ChangeShapes Go.WideShapes Go.ChangeAt Go.RowKit

theorem four (how : Int) : pickV how 4 = 0 ∨ pickV how 4 = 1 ∨ pickV how 4 = 2 ∨ pickV how 4 = 3 := by
  unfold pickV
  have h1 : 0 ≤ IntKind.u64.wrap how := by simp [IntKind.wrap, IntKind.bits, IntKind.signed]; omega
  have h2 : IntKind.u64.wrap 4 = 4 := by decide
  rw [h2]
  have h3 : (IntKind.u64.wrap how).tmod 4 = (IntKind.u64.wrap how) % 4 := Int.tmod_eq_emod_of_nonneg h1
  rw [h3]
  generalize IntKind.u64.wrap how = x at h1
  have h4 : IntKind.i64.wrap (x % 4) = x % 4 := by simp [IntKind.wrap, IntKind.bits, IntKind.signed]; omega
  rw [h4]
  omega

theorem walk (n how : Int) (W : World) (hL : laidMetH Tryz.prog laidL W) : Calls Tryz.prog 6 #[.int .i64 n, .int .i64 how] W fun e W' => e = .returned (.bool true) ∧ Grew W W' := by
  have h5 : IntKind.u64.wrap 4 ≠ 0 := by decide
  let ρ : Nat → Int := fun i => match i with | 0 => n | _ => how
  have hargs : VRs ρ none0 [.int .i64 (.var 0), .int .i64 (.var 1)] [.int .i64 n, .int .i64 how] := .cons (.int .i64 (.var 0)) (.cons (.int .i64 (.var 1)) .nil)
  have nil : ∀ o u v r, (o, u, v, r) ∈ ([] : List (BinOp × IE × IE × Bool)) → cmpInt o (u.ev ρ) (v.ev ρ) = r := fun _ _ _ _ h => (nomatch h)
  rcases four how with h | h | h | h
  · exact law_true (ρ := ρ) (xs := #[.int .i64 n, .int .i64 how]) gn0 h5 h nil hargs (hglob hL)
  · by_cases hn : n = 1
    · subst hn
      exact law_true (ρ := ρ) (xs := #[.int .i64 1, .int .i64 how]) gn1b h5 h nil (.cons (.int .i64 (.lit 1)) (.cons (.int .i64 (.var 1)) .nil)) (hglob hL)
    · refine law_true (ρ := ρ) (xs := #[.int .i64 n, .int .i64 how]) gn1 h5 h ?_ hargs (hglob hL)
      intro o u v r hm
      simp only [gnM1, List.mem_cons, Prod.mk.injEq, List.not_mem_nil, or_false] at hm
      obtain ⟨rfl, rfl, rfl, rfl⟩ := hm
      simp only [cmpInt, IE.ev]
      exact beq_eq_false_iff_ne.2 (fun hh => hn hh.symm)
  · exact law_true (ρ := ρ) (xs := #[.int .i64 n, .int .i64 how]) gn2 h5 h nil hargs (hglob hL)
  · exact law_true (ρ := ρ) (xs := #[.int .i64 n, .int .i64 how]) gn3 h5 h nil hargs (hglob hL)

/-- What the walk gives, for every argument and every world that holds the tables. -/
theorem contract (H : Type) (enc : TypeId × Value → H) (W : World) (base : Nat) (args : Array Value) (ds gs : List (DataW H)) (before : List MemPlace)
    (hval : ∀ (j : Nat) t v, Tryz.f6.params[j]? = some t → args[j]? = some v → Value.okWide Tryz.prog W .any base t v)
    (hW : DataW.Whole enc Tryz.prog Tryz.f6.params.toList Rows.actGoneSpec.vars false W args.toList ds gs before) (hL : laidMetH Tryz.prog Rows.actGoneRow.laid W) :
    Calls Tryz.prog 6 args W fun e W' => ∃ v, e = .returned v ∧ Rows.actGoneSpec.post enc Tryz.prog Tryz.f6 false true false false W args v W' := by
  have hW' := hW
  obtain ⟨p, q, hA0, hV, rfl, hfz, hnd⟩ := hW
  have hA : DataW.TrodAll enc Tryz.prog W 0 (fun _ => true) true Tryz.f6.params.toList args.toList ds p := hA0
  rw [Tryz.params6] at hA hval
  obtain ⟨v0, vs0, d0, ds0, p0, q0, hargs, rfl, rfl, h0, r0⟩ := trodAll_cons hA
  obtain ⟨v1, vs1, d1, ds1, p1, q1, rfl, rfl, rfl, h1, r1⟩ := trodAll_cons r0
  obtain ⟨rfl, rfl, rfl⟩ := trodAll_nil r1
  obtain rfl : args = #[v0, v1] := by cases args; simp_all
  obtain ⟨rfl, rfl⟩ := trodVars_none hV
  obtain ⟨a, rfl, rfl, rfl, wa⟩ := open_int Tryz.underlying3 (hval 0 3 v0 rfl rfl) h0
  obtain ⟨b, rfl, rfl, rfl, wb⟩ := open_int Tryz.underlying3 (hval 1 3 v1 rfl rfl) h1
  clear hA0
  simp only [List.append_nil] at hW'
  refine (walk a b W hL).mono fun e W' ⟨he, hg⟩ => ?_
  subst he
  exact ⟨_, rfl, _, _, _, [], [], [], hW', trodAll_cons_mk (shut_bool Tryz.underlying4 _) trodAll_mk0,
    trodAll_cons_mk (shut_int Tryz.underlying3 wa) (trodAll_cons_mk (shut_int Tryz.underlying3 wb) trodAll_mk0), rfl, kept_of hg _, fun h => (nomatch h)⟩

end Go.Proofs.YtmncnjolillclaaGreatDoor.actGone

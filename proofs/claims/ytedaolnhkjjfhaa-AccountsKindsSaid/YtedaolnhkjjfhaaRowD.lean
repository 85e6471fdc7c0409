/- The statement AccountsKinds of package signatorylaw: for every input it returns true, and its arguments read as before. No conditions. -/
import Derived.Test.YtedaolnhkjjfhaaRows
import Derived.Test.YtedaolnhkjjfhaaA5
set_option linter.unusedVariables false
set_option linter.unusedSimpArgs false
set_option linter.unnecessarySimpa false
namespace Go.Proofs.Ytedaolnhkjjfhaa.accountsKinds
open Go.Abs Go.Abs.P Go.RowKit
set_option maxRecDepth 100000 in
theorem lifted (os : Os) (started : os.Started) (H : Type) (enc : TypeId × Value → H) :
    ReturnsInHanded {} Try.checked os 7 .any (Rows.accountsKindsSpec.pre6 enc Try.prog Try.f7 Rows.accountsKindsRow.domain false) (Rows.accountsKindsSpec.post enc Try.prog Try.f7 false true false false) :=
  lifted_of (C := Try.checked) (ir := law53_AccountsKinds) (cfg_ok [40]) mix_ok law53_AccountsKinds_ok own53 started (by kernel_rfl) Try.func7
    (ChangeSpec.witness6 (enc := enc) (C := Try.checked) false ⟨#[], #[.slice none 0 0, .slice none 0 0, .int .i64 0, .int .i64 0, .int .i64 0], []⟩ 8 (by kernel_rfl) (by kernel_rfl) (by kernel_rfl) (by kernel_rfl))
    plain53_ok (by kernel_rfl) laid53 (rt := 4) (by kernel_rfl) Try.underlying4 rfl
    (fun H ds h => match ds, h with | [_, _, _, _, _], _ => rfl)
    (fun W Ds h => by
      have hts : Try.f7.params.toList = [22, 23, 3, 3, 3] := by kernel_rfl
      replace h : fitArgs Try.prog [22, 23, 3, 3, 3] Ds := hts ▸ h
      obtain ⟨_, _, _, rfl, h0, _, _, _, rfl, h1, _, _, _, rfl, h2, _, _, _, rfl, h3, _, _, _, rfl, h4, rfl⟩ := h
      obtain ⟨a0, e0, g0⟩ := fit_budgets h0
      obtain ⟨a1, e1, g1⟩ := fit_uses h1
      obtain ⟨a2, e2, g2⟩ := fit_num h2
      obtain ⟨a3, e3, g3⟩ := fit_num h3
      obtain ⟨a4, e4, g4⟩ := fit_num h4
      rw [e0, e1, e2, e3, e4]
      exact ⟨Nat.le_of_ble_eq_true rfl, AccountsKinds_wp ⟨rfl⟩ a0 g0.1 a1 a2 a3 a4⟩)
theorem over : Rows.accountsKindsRow.holds Try.pinned (OpenSpec.ofChange Rows.accountsKindsSpec) :=
  OpenClaim.holds_of_wide 7 Try.f7 rfl rfl rfl rfl rfl rfl rfl ⟨rfl, rfl, rfl, rfl, rfl⟩ rfl rfl rfl rfl rfl (by kernel_rfl) Try.func7 (by kernel_rfl)
    (of_decide_eq_true (by kernel_rfl)) (by unfold Func.isWrapper; first | (rw [if_pos (by decide +kernel)]; kernel_rfl) | (rw [if_neg (by decide +kernel)]; exact ⟨rfl, rfl⟩))
    (fun os started H enc _ => lifted os started H enc)
/-- The statement. -/
theorem proved : Rows.AccountsKindsSaid := over
#print axioms proved
end Go.Proofs.Ytedaolnhkjjfhaa.accountsKinds

/- The row of AccountsHistorySpec. No conditions. -/
import Derived.Test.YtedaolnhkjjfhaaRows
import Derived.Test.YtedaolnhkjjfhaaA5
set_option linter.unusedVariables false
set_option linter.unusedSimpArgs false
set_option linter.unnecessarySimpa false
namespace Go.Proofs.Ytedaolnhkjjfhaa.accountsHistorySpec
open Go.Abs Go.Abs.P Go.RowKit
theorem args5 {ts : List TypeId} (hts : ts = [22, 23, 3, 3, 3]) {Ds : List D} (h : fitArgs Try.prog ts Ds) : ∃ (l : List Budget) (u : List Use) (a b c : Int), Ds = [.dat (.list (l.map Budget.enc) false), .dat (.list (u.map Use.enc) false), .dat (I a), .dat (I b), .dat (I c)] ∧ (l.length ≤ maxLen ∧ ∀ b ∈ l, b.ok) ∧ (u.length ≤ maxLen ∧ ∀ b ∈ u, b.ok) ∧ In64 a ∧ In64 b ∧ In64 c := by
  subst hts
  obtain ⟨_, _, _, rfl, h0, _, _, _, rfl, h1, _, _, _, rfl, h2, _, _, _, rfl, h3, _, _, _, rfl, h4, rfl⟩ := h
  obtain ⟨l, e0, g0⟩ := fit_budgets h0
  obtain ⟨u, e1, g1⟩ := fit_uses h1
  obtain ⟨a, e2, g2⟩ := fit_num h2
  obtain ⟨b, e3, g3⟩ := fit_num h3
  obtain ⟨c, e4, g4⟩ := fit_num h4
  rw [e0, e1, e2, e3, e4]
  exact ⟨l, u, a, b, c, rfl, g0, g1, g2, g3, g4⟩

set_option maxRecDepth 100000 in
theorem lifted (os : Os) (started : os.Started) (H : Type) (enc : TypeId × Value → H) :
    ReturnsInHanded {} Try.checked os 4 .any (Rows.accountsHistorySpecSpec.pre6 enc Try.prog Try.f4 Rows.accountsHistorySpecRow.domain false) (Rows.accountsHistorySpecSpec.post enc Try.prog Try.f4 false true false false) :=
  lifted_of (C := Try.checked) (ir := law53_AccountsHistorySpec) (cfg_ok []) mix_ok law53_AccountsHistorySpec_ok own53 started (by kernel_rfl) Try.func4
    (ChangeSpec.witness6 (enc := enc) (C := Try.checked) false ⟨#[], #[.slice none 0 0, .slice none 0 0, .int .i64 0, .int .i64 0, .int .i64 0], []⟩ 8 (by kernel_rfl) (by kernel_rfl) (by kernel_rfl) (by kernel_rfl))
    plain53_ok (by kernel_rfl) laid53 (rt := 4) (by kernel_rfl) Try.underlying4 rfl
    (fun H ds h => match ds, h with | [_, _, _, _, _], _ => rfl)
    (fun W Ds h => by
      obtain ⟨l, u, a, b, c, rfl, _⟩ := args5 (by kernel_rfl) h
      exact ⟨Nat.le_of_ble_eq_true rfl, AccountsHistorySpec_true ⟨rfl⟩ l u a b c⟩)
theorem over : Rows.accountsHistorySpecRow.holds Try.pinned (OpenSpec.ofChange Rows.accountsHistorySpecSpec) :=
  OpenClaim.holds_of_wide 4 Try.f4 rfl rfl rfl rfl rfl rfl rfl ⟨rfl, rfl, rfl, rfl, rfl⟩ rfl rfl rfl rfl rfl (by kernel_rfl) Try.func4 (by kernel_rfl)
    (of_decide_eq_true (by kernel_rfl)) (by unfold Func.isWrapper; first | (rw [if_pos (by decide +kernel)]; kernel_rfl) | (rw [if_neg (by decide +kernel)]; exact ⟨rfl, rfl⟩))
    (fun os started H enc _ => lifted os started H enc)
/-- The statement. -/
theorem proved : Rows.AccountsHistorySpecSaid := over
#print axioms proved
end Go.Proofs.Ytedaolnhkjjfhaa.accountsHistorySpec

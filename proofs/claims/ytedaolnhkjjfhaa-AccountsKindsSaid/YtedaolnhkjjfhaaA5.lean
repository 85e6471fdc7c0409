/- Chapter 53: History. No conditions. -/
import Derived.Test.YtedaolnhkjjfhaaA4
import Derived.Test.YtedaolnhkjjfhaaA3
import Derived.WalkKit
import Derived.ProofKit
import Derived.OpenShut
import Derived.ShutString
import Derived.ChangeOld
import Derived.Below
import Derived.Carry
import Derived.SizedLaws
import Derived.Deep.Slices
set_option linter.unusedVariables false
set_option linter.unusedSimpArgs false
set_option linter.unnecessarySimpa false
namespace Go.Abs.P
open Go.Proofs
set_option maxRecDepth 10000
variable {C : Ctx}

def evS (p : Int × Int) : D := .dat (.agg [I p.1, I p.2])
def encH (m : List (Int × (Int × Int))) : List (Dat × D) := encT I evS m
theorem ekI_eq (a b : Int) : eqKey (.c .i) (I a) (I b) = some (decide (a = b)) := by simp [eqKey, eqC, I]
theorem mapGet_H (a : Int) (m : List (Int × (Int × Int))) : mapGet (.c .i) (.int .i64 a) (encH m) = some ((aget a m).map evS) := mapGet_T ekI_eq a m
theorem mapPut_H (a c v : Int) (m : List (Int × (Int × Int))) : mapPut (.c .i) (.int .i64 a) (.dat (.agg [.int .i64 c, .int .i64 v])) (encH m) = some (encH (aput a (c, v) m)) := mapPut_T (ev := evS) ekI_eq a (c, v) m
theorem getD_S (o : Option (Int × Int)) : (o.map evS).getD (.dat (.agg [.int .i64 0, .int .i64 0])) = .dat (.agg [.int .i64 (o.getD (0, 0)).1, .int .i64 (o.getD (0, 0)).2]) := by cases o <;> rfl
attribute [go_sem] mapGet_H mapPut_H getD_S
theorem encH_M (m : List (Int × (Int × Int))) : encH m = encM (m.map fun p => (p.1, evS p.2)) := by simp [encH, encT, encM, I]

def timesStep (m : List (Int × (Int × Int))) (x : Use) : List (Int × (Int × Int)) :=
  aput x.at_ (IntKind.i64.wrap (((aget x.at_ m).getD (0, 0)).1 + 1), IntKind.i64.wrap (((aget x.at_ m).getD (0, 0)).2 + x.value)) m
def timesOf (b : Book) (period : Int) : List (Int × (Int × Int)) := (b.u.filter (counts b period)).foldl timesStep []
def stepsFrom (b : Budget) (m : List (Int × (Int × Int))) (c v : Int) : List Int → List (Int × Int × Bool)
  | [] => []
  | t :: l =>
    let c' := IntKind.i64.wrap (c + ((aget t m).getD (0, 0)).1)
    let v' := IntKind.i64.wrap (v + ((aget t m).getD (0, 0)).2)
    (t, c', fine b c' v') :: stepsFrom b m c' v' l
def encStep (s : Int × Int × Bool) : Dat := .agg [I s.1, I s.2.1, .bool s.2.2]
def historyR (l : List Budget) (u : List Use) (no period known : Int) : List (Int × Int × Bool) × Int :=
  if examine l u ≠ 0 then ([], examine l u) else
  match findB l no with
  | none => ([], 1)
  | some b => if 0 ≤ period ∧ period ≤ (1099511627775 : Int).tdiv b.period ∧ within 1099511627776 [known] = true then
      (stepsFrom b (timesOf ⟨b, u, known⟩ period) 0 0 (sortI ((timesOf ⟨b, u, known⟩ period).map (·.1))), 0) else ([], 1)

theorem keysB_ok (h : In C) (r : Ref) : CallV C (.dat (.fn maps_Keys_map_int_accounts_sum_int_accounts_sum_id [] [])) [.map r] noneF
    (fun r' S' => ∃ d, r' = .ret d ∧ ∃ r1, d = .fn maps_Keys_map_int_accounts_sum_int_accounts_sum_1_id [] [.ptr r1 0] ∧ S' r1 = some (.cells [.map r])) := by
  refine h.call maps_Keys_map_int_accounts_sum_int_accounts_sum_ok (Nat.le_of_ble_eq_true rfl) fun ℓ hS _ => ?_
  unfold maps_Keys_map_int_accounts_sum_int_accounts_sum
  simp +contextual -implicitDefEqProofs only [go_sem]
  refine ⟨_, ownF [(.v ℓ 1 0, .cells [.map r])], D.le.refl _, fun r z e => .inl e, _, rfl, .v ℓ 1 0, rfl, ?_⟩
  simp only [ownF, go_sem]

theorem sortedB_ok (h : In C) {r r1 : Ref} {m : List (Int × D)} {S : OwnF} (h1 : S r1 = some (.cells [.map r])) (h2 : S r = some (.map (encM m))) (hnd : (m.map (·.1)).Nodup) (hwf : ∀ p ∈ m, (Lit.int .i64 p.1).wf = true) (hlen : m.length ≤ 1048576) :
    CallV C (.dat (.fn slices_Sorted_int_id [] [])) [.fn maps_Keys_map_int_accounts_sum_int_accounts_sum_1_id [] [.ptr r1 0]] S (Same S (.dat (.list ((sortI (m.map (·.1))).map I) false))) := by
  have := @CallV.sortedKeys C Try.keysB_ren Try.sortedA_ren (by rw [h.P]; exact { Try.keysB with }) (by rw [h.P]; exact Try.sortedA) (by rw [h.P]; exact Try.sortsA 4)
    (by rw [h.P]; exact enters_of Try.func31 (by kernel_rfl) rfl) (by rw [h.P]; exact enters_of Try.func48 (by kernel_rfl) rfl) (by rw [h.P]; exact enters_of Try.func53 (by kernel_rfl) rfl) r r1 m S h1 h2 hnd hwf hlen
  exact this

/-- Times, each once, of uses that are there. -/
def TimesOk (u : List Use) (m : List (Int × (Int × Int))) : Prop := (m.map (·.1)).Nodup ∧ ∀ k ∈ m.map (·.1), ∃ x ∈ u, x.at_ = k
theorem aput_keys (k : Int) (v : Int × Int) : ∀ m : List (Int × (Int × Int)), (aput k v m).map (·.1) = ins k (m.map (·.1))
  | [] => by simp [aput, ins]
  | p :: m => by
    simp only [aput]
    by_cases h : k = p.1
    · rw [if_pos h]; simp [ins, h]
    · rw [if_neg h]
      have := aput_keys k v m
      simp only [List.map_cons, this]
      unfold ins
      by_cases h2 : k ∈ m.map (·.1)
      · rw [if_pos h2, if_pos (by simp at h2 ⊢; exact .inr h2)]
      · rw [if_neg h2, if_neg (by simp at h2 ⊢; exact ⟨h, h2⟩)]; simp
theorem TimesOk.step {u : List Use} {m : List (Int × (Int × Int))} (h : TimesOk u m) {x : Use} (hx : x ∈ u) : TimesOk u (timesStep m x) := by
  unfold TimesOk timesStep
  rw [aput_keys]
  unfold ins
  split
  · exact h
  · rename_i hn
    refine ⟨?_, fun k hk => ?_⟩
    · rw [List.nodup_append]
      refine ⟨h.1, by simp, fun a ha b hb => ?_⟩
      simp only [List.mem_singleton] at hb
      subst hb
      intro e; subst e; exact hn ha
    · rcases List.mem_append.1 hk with hk | hk
      · exact h.2 k hk
      · simp only [List.mem_singleton] at hk; exact ⟨x, hx, hk.symm⟩
theorem TimesOk.len {u : List Use} {m : List (Int × (Int × Int))} (h : TimesOk u m) : m.length ≤ u.length := by
  have := nodup_len (m.map (·.1)) (u.map (·.at_)) h.1 fun k hk => by obtain ⟨y, hy, e⟩ := h.2 k hk; exact List.mem_map.2 ⟨y, hy, e⟩
  simpa using this

theorem Back.get {ℓ : Nat} {st : St} {S' : OwnF} (hb : Back ℓ st noneF S') {r : Ref} {b : Blk} (h : S' r = some b) : St.get { st with out := S' } r = some b := by
  unfold St.get
  split
  · rename_i b' e
    have := hb.keys r rfl (.inl (by unfold Own.has; rw [e]; simp))
    rw [h] at this; simp at this
  · exact h
theorem stepsFrom_cons (b : Budget) (m : List (Int × (Int × Int))) (c v t : Int) (l : List Int) : stepsFrom b m c v (t :: l) = (t, IntKind.i64.wrap (c + ((aget t m).getD (0, 0)).1), fine b (IntKind.i64.wrap (c + ((aget t m).getD (0, 0)).1)) (IntKind.i64.wrap (v + ((aget t m).getD (0, 0)).2))) :: stepsFrom b m (IntKind.i64.wrap (c + ((aget t m).getD (0, 0)).1)) (IntKind.i64.wrap (v + ((aget t m).getD (0, 0)).2)) l := rfl

theorem History_ok (h : In C) (l : List Budget) (u : List Use) (no period known : Int) : CallV C (.dat (.fn accounts_History_id [] [])) [.dat (.list (l.map Budget.enc) false), .dat (.list (u.map Use.enc) false), .dat (I no), .dat (I period), .dat (I known)] noneF
    (Gives (.dat (encR ((historyR l u no period known).1.map encStep) (historyR l u no period known).2))) := by
  refine h.call accounts_History_ok (Nat.le_of_ble_eq_true rfl) fun ℓ hS _ => ?_
  unfold accounts_History
  simp +contextual -implicitDefEqProofs only [go_sem]
  refine CallX.plain (examine_ok h l u) ?_
  simp +contextual -implicitDefEqProofs only [go_sem]
  refine ⟨?_, ?_⟩
  rotate_left
  · intro h1
    have h1 : examine l u ≠ 0 := by simpa using h1
    refine RetNow.gives (.inl ?_)
    simp [historyR, h1, I, encR, D.out, Dat.wk, Dat.wk1]
  intro h1
  have h1 : examine l u = 0 := by simpa using h1
  obtain ⟨hc, hu, huf⟩ := examine_parts h1
  have hfits := usesFrom_fits u [] huf
  refine CallX.plain (find_ok h l (checkB_len hc) u no known) ?_
  cases hf : findB l no with
  | none =>
    simp +contextual -implicitDefEqProofs only [go_sem, encFind]
    refine RetNow.gives (.inl ?_)
    simp [historyR, h1, hf, I, encR, D.out, Dat.wk, Dat.wk1]
  | some b =>
    have hb := right_parts (checkB_right hc b (findB_mem hf))
    have hp : b.period ≠ 0 := by omega
    have hq : IntKind.i64.wrap (Int.tdiv 1099511627775 b.period) = Int.tdiv 1099511627775 b.period := by
      have h1 : 0 ≤ Int.tdiv 1099511627775 b.period := Int.tdiv_nonneg (by omega) (by omega)
      have h2 : Int.tdiv 1099511627775 b.period ≤ 1099511627775 := Int.tdiv_le_self _ (by omega)
      exact wrap_in (by omega)
    simp +contextual -implicitDefEqProofs only [go_sem, encFind, hp, hq]
    refine gcall_f ?_ (fun e => ?_) ?_; rotate_left
    · simp only [go_sem, e]; exact within_ok h 1099511627776 [known] (by simp)
    simp +contextual -implicitDefEqProofs only [go_sem]
    refine ⟨?_, ?_⟩
    · intro h2
      have hn : ¬ (0 ≤ period ∧ period ≤ (1099511627775 : Int).tdiv b.period ∧ within 1099511627776 [known] = true) := by
        rintro ⟨h3, h4, h5⟩
        rw [h5] at h2
        simp at h2
        omega
      refine RetNow.gives (.inl ?_)
      simp only [historyR, h1, hf]
      rw [if_neg hn]; rfl
    intro h2
    have hy : 0 ≤ period ∧ period ≤ (1099511627775 : Int).tdiv b.period ∧ within 1099511627776 [known] = true := by
      cases e : within 1099511627776 [known] with
      | false => rw [e] at h2; simp at h2
      | true => rw [e] at h2; simp at h2; simp; omega
    refine CallX.new (in_ok h ⟨b, u, known⟩ period) ?_
    rintro d S' ⟨r1, r2, rfl, g1, g2⟩ hb'
    simp +contextual -implicitDefEqProofs only [go_sem, orF_none]
    refine RangeW.up [13, 54, 15] (fun rest s => ∃ (n : Nat) (m : List (Int × (Int × Int))) (us : List Use), s = ⟨[(10, .dat (.list [] true)), (13, .ptr (.v ℓ 13 0) 0), (15, .ptr (.v ℓ 15 2) 0), (57, .fn accounts_book_in_1_id [] [.ptr r1 0, .ptr r2 0])], [(.v ℓ 13 0, .cells (Book.cells ⟨b, u, known⟩)), (.v ℓ 54 1, .map (encH m)), (.v ℓ 15 2, .cells [.map (.v ℓ 54 1)])], noneF, n, []⟩ ∧ rest = us.map (fun u => [.dat u.enc]) ∧ TimesOk u m ∧ (∀ x ∈ us, x ∈ u) ∧ timesOf ⟨b, u, known⟩ period = us.foldl timesStep m) ?_ (in1_ok h ⟨b, u, known⟩ hu hp _ r1 r2 S' g1 g2) ?_ ?_ ?_
    · intro r hr
      exact hb'.keys r rfl (.inl hr)
    · rintro xs rfl
      simp only [go_sem]
      exact ⟨3, [], _, rfl, rfl, ⟨by simp, by simp⟩, fun x hx => (List.mem_filter.1 hx).1, rfl⟩
    · rintro x rest s ⟨n, m, us, rfl, hx, hm, hsub, hs⟩
      cases us with
      | nil => simp at hx
      | cons x us =>
        simp only [List.map_cons, List.cons.injEq] at hx
        obtain ⟨rfl, rfl⟩ := hx
        refine ⟨rfl, ?_⟩
        unfold accounts_History_a0 accounts_History_b0
        simp +contextual -implicitDefEqProofs only [go_sem]
        refine (sum_add_ok h _ _ x).mono fun r S' e => ?_
        obtain rfl : r = .ret _ := e
        simp +contextual -implicitDefEqProofs only [go_sem]
        exact ⟨_, _, us, rfl, rfl, hm.step (hsub x (by simp)), fun y hy => hsub y (by simp [hy]), hs⟩
    · rintro s ⟨n, m, us, rfl, hx, hm, hsub, hs⟩
      cases us with
      | cons u us => simp at hx
      | nil =>
        simp only [List.foldl_nil] at hs
        simp +contextual -implicitDefEqProofs only [go_sem]
        refine CallX.new (keysB_ok h _) ?_
        rintro d S' ⟨r1, rfl, g1⟩ hb'
        simp +contextual -implicitDefEqProofs only [go_sem, orF_none]
        have hml := hm.len
        refine CallX.same rfl (sortedB_ok h (r := .v ℓ 54 1) (r1 := r1) (m := m.map fun p => (p.1, evS p.2)) ?_ ?_ ?_ ?_ ?_) ?_
        · have := Back.get hb' g1
          exact this
        · simp only [go_sem, encH_M]
        · simpa [Function.comp_def] using hm.1
        · intro p hp
          obtain ⟨q, hq, rfl⟩ := List.mem_map.1 hp
          obtain ⟨y, hy, e⟩ := hm.2 q.1 (List.mem_map.2 ⟨q, hq, rfl⟩)
          have := fits_parts (hfits y hy)
          exact i64_wf (by simp only; omega)
        · simp only [List.length_map]; omega
        · have hks : (m.map fun p => (p.1, evS p.2)).map (·.1) = m.map (·.1) := by simp [Function.comp_def]
          rw [hks]
          have hR : historyR l u no period known = (stepsFrom b m 0 0 (sortI (m.map (·.1))), 0) := by
            simp only [historyR, h1, hf, hs]
            rw [if_neg (by simp), if_pos hy]
          rw [hR]
          have hlen : (sortI (m.map (·.1))).length ≤ 4096 := by unfold sortI; rw [List.length_mergeSort]; simp; omega
          generalize sortI (m.map (·.1)) = ts at hlen
          simp +contextual -implicitDefEqProofs only [go_sem]
          refine LoopW.sh (some ([10, 13, 15, 17, 70, 71, 72], [13, 54, 15, 17, 100])) (fun i s => ∃ n' k8 xs c v, s = ⟨[(10, .lst (xs.map encStep) (.v ℓ 100 k8)), (13, .ptr (.v ℓ 13 0) 0), (15, .ptr (.v ℓ 15 2) 0), (17, .ptr (.v ℓ 17 n) 0), (70, .dat (.list (ts.map I) false)), (71, .dat (I ts.length)), (72, .dat (I i))], [(.v ℓ 13 0, .cells (Book.cells ⟨b, u, known⟩)), (.v ℓ 54 1, .map (encH m)), (.v ℓ 15 2, .cells [.map (.v ℓ 54 1)]), (.v ℓ 17 n, .cells [.dat (I c), .dat (I v)]), (.v ℓ 100 k8, .tok 3)], S', n', []⟩ ∧ xs.length ≤ i ∧ stepsFrom b m 0 0 ts = xs ++ stepsFrom b m c v (ts.drop i)) ts.length ?_ ?_
          · refine ⟨_, (Sh.tok C ℓ _ 10 100 3 (by simp only [go_sem])).trans (Sh.keep C ℓ _ (some ([10, 13, 15, 17, 70, 71, 72], [13, 54, 15, 17, 100]))), ?_⟩
            simp only [go_sem]
            exact ⟨_, _, [], 0, 0, rfl, Nat.le_refl _, rfl⟩
          · rintro i hi s ⟨n', k8, xs, c, v, rfl, hlen2, hst⟩
            unfold accounts_History_l1
            simp only [go_sem]
            constructor
            · intro h3
              have h' : i < ts.length := by simpa using h3
              have hx := List.getElem?_eq_getElem h'
              have hd := List.drop_eq_getElem_cons h'
              generalize ts[i] = t at hx hd
              have hw : IntKind.i64.wrap ((i : Int) + 1) = ((i + 1 : Nat) : Int) := wrap_in (by omega)
              have hm' : xs.length + 1 ≤ mostLen := by unfold mostLen; omega
              rw [hd, stepsFrom_cons] at hst
              simp +contextual -implicitDefEqProofs (maxSteps := 1000000) only [go_sem, hx, hw, hm']
              refine (fine_ok h ⟨b, u, known⟩ _ _).mono fun r S' e => ?_
              obtain rfl : r = .ret _ := e
              simp +contextual -implicitDefEqProofs (maxSteps := 1000000) only [go_sem, hx, hw, hm']
              exact ⟨h', _, Sh.refl C ℓ _, n' + 1, n', xs ++ [(t, IntKind.i64.wrap (c + ((aget t m).getD (0, 0)).1), fine b (IntKind.i64.wrap (c + ((aget t m).getD (0, 0)).1)) (IntKind.i64.wrap (v + ((aget t m).getD (0, 0)).2)))], _, _, by rw [List.map_append]; rfl, by simp; omega, by rw [hst]; simp⟩
            · intro h3
              rw [List.drop_eq_nil_of_le (by simpa using h3)] at hst
              refine RetNow.gives (.inl ?_)
              rw [hst]; simp [D.out, D.out1, stepsFrom, encR, I]; rfl
end Go.Abs.P

/- Chapter 53: the reference of layer 18: right budgets and uses. No conditions. -/
namespace Go.Abs.P
open Go.Proofs
set_option maxRecDepth 10000
variable {C : Ctx}

def inR (n a b : Int) : Bool := decide (a ≤ n) && decide (n ≤ b)
def isTime (n : Int) : Bool := decide (0 ≤ n) && decide (n < 1099511627776)
def isKind (n : Int) : Bool := decide (0 ≤ n) && decide (n < 16)
theorem within18_ok (h : In C) (n a b : Int) : CallV C (.dat (.fn ref18_within_id [] [])) [.dat (I n), .dat (I a), .dat (I b)] noneF (Gives (.dat (.bool (inR n a b)))) := by
  refine h.call ref18_within_ok (Nat.le_of_ble_eq_true rfl) fun ℓ hS _ => ?_
  unfold ref18_within
  simp +contextual -implicitDefEqProofs only [go_sem]
  exact RetNow.gives (.inr rfl)
theorem moment18_ok (h : In C) (n : Int) : CallV C (.dat (.fn ref18_moment_id [] [])) [.dat (I n)] noneF (Gives (.dat (.bool (isTime n)))) := by
  refine h.call ref18_moment_ok (Nat.le_of_ble_eq_true rfl) fun ℓ hS _ => ?_
  unfold ref18_moment
  simp +contextual -implicitDefEqProofs only [go_sem]
  exact RetNow.gives (.inr rfl)
theorem kind18_ok (h : In C) (n : Int) : CallV C (.dat (.fn ref18_kind_id [] [])) [.dat (I n)] noneF (Gives (.dat (.bool (isKind n)))) := by
  refine h.call ref18_kind_ok (Nat.le_of_ble_eq_true rfl) fun ℓ hS _ => ?_
  unfold ref18_kind
  simp +contextual -implicitDefEqProofs only [go_sem]
  exact RetNow.gives (.inr rfl)
theorem Time53_ok (h : In C) (n : Int) : CallV C (.dat (.fn ref53_Time_id [] [])) [.dat (I n)] noneF (Gives (.dat (.bool (isTime n)))) := by
  refine h.call ref53_Time_ok (Nat.le_of_ble_eq_true rfl) fun ℓ hS _ => ?_
  unfold ref53_Time
  simp +contextual -implicitDefEqProofs only [go_sem]
  exact RetNow.gives (.inr rfl)
def counts18 (x : Budget) (at_ known : Int) : Bool := decide (x.at_ ≤ at_) && decide (x.known ≤ known)
theorem counts18_ok (h : In C) (x : Budget) (at_ known : Int) : CallV C (.dat (.fn ref18_counts_id [] [])) [.dat x.enc, .dat (I at_), .dat (I known)] noneF (Gives (.dat (.bool (counts18 x at_ known)))) := by
  refine h.call ref18_counts_ok (Nat.le_of_ble_eq_true rfl) fun ℓ hS _ => ?_
  unfold ref18_counts
  simp +contextual -implicitDefEqProofs only [go_sem]
  exact RetNow.gives (.inr rfl)

theorem right18 (x : Budget) : x.right = (inR x.no 0 1048576 && isTime x.at_ && isTime x.known && inR x.kind (-1) 15 && inR x.period 1 1099511627776 && (if x.gone then decide (x.count = 0) && decide (x.value = 0) else inR x.count 0 1048576 && inR x.value 0 1099511627776)) := by
  unfold Budget.right between inR isTime
  rw [Bool.eq_iff_iff]
  cases x.gone <;> simp <;> omega

theorem Right18_ok (h : In C) (x : Budget) : CallV C (.dat (.fn ref18_Right_id [] [])) [.dat x.enc] noneF (Gives (.dat (.bool x.right))) := by
  refine h.call ref18_Right_ok (Nat.le_of_ble_eq_true rfl) fun ℓ hS _ => ?_
  unfold ref18_Right
  simp +contextual -implicitDefEqProofs (maxSteps := 1000000) only [go_sem]
  refine CallX.plain (within18_ok h x.no 0 1048576) ?_
  simp +contextual -implicitDefEqProofs only [go_sem]
  refine gcall_t ?_ (fun e => ?_) ?_; rotate_left
  · simp only [go_sem, e]; exact moment18_ok h x.at_
  simp +contextual -implicitDefEqProofs only [go_sem]
  refine gcall_f ?_ (fun e => ?_) ?_; rotate_left
  · simp only [go_sem, e]; exact moment18_ok h x.known
  simp +contextual -implicitDefEqProofs only [go_sem]
  refine gcall_f ?_ (fun e => ?_) ?_; rotate_left
  · simp only [go_sem, e]; exact within18_ok h x.kind (-1) 15
  simp +contextual -implicitDefEqProofs only [go_sem]
  refine gcall_f ?_ (fun e => ?_) ?_; rotate_left
  · simp only [go_sem, e]; exact within18_ok h x.period 1 1099511627776
  simp +contextual -implicitDefEqProofs only [go_sem]
  constructor
  · intro h1
    refine RetNow.gives (.inr ?_)
    rw [right18]
    cases e1 : inR x.no 0 1048576 <;> cases e2 : isTime x.at_ <;> cases e3 : isTime x.known <;> cases e4 : inR x.kind (-1) 15 <;> cases e5 : inR x.period 1 1099511627776 <;> simp [e1, e2, e3, e4, e5] at h1 ⊢
  intro h1
  have h2 : (inR x.no 0 1048576 && isTime x.at_ && isTime x.known && inR x.kind (-1) 15 && inR x.period 1 1099511627776) = true := by
    cases e1 : inR x.no 0 1048576 <;> cases e2 : isTime x.at_ <;> cases e3 : isTime x.known <;> cases e4 : inR x.kind (-1) 15 <;> cases e5 : inR x.period 1 1099511627776 <;> simp [e1, e2, e3, e4, e5] at h1 ⊢
  constructor
  · intro h3
    refine RetNow.gives (.inr ?_)
    rw [right18, h2, h3]; rfl
  · intro h3
    refine CallX.plain (within18_ok h x.count 0 1048576) ?_
    simp +contextual -implicitDefEqProofs only [go_sem]
    refine gcall_t ?_ (fun e => ?_) ?_; rotate_left
    · simp only [go_sem, e]; exact within18_ok h x.value 0 1099511627776
    simp +contextual -implicitDefEqProofs only [go_sem]
    refine RetNow.gives (.inr ?_)
    rw [right18, h2, h3]; rfl

def lastNo (l : List Budget) : Nat → Int
  | 0 => -1
  | i + 1 => (l[i]?.map (·.no)).getD 0
theorem chkFrom_cons (k : Int) (x : Budget) (l : List Budget) : chkFrom k (x :: l) = if x.right && decide (k < x.no) then chkFrom x.no l else 180 := rfl
theorem Check18_ok (h : In C) (l : List Budget) : CallV C (.dat (.fn ref18_Check_id [] [])) [.dat (.list (l.map Budget.enc) false)] noneF (Gives (.dat (I (checkB l)))) := by
  refine h.call ref18_Check_ok (Nat.le_of_ble_eq_true rfl) fun ℓ hS _ => ?_
  unfold ref18_Check
  simp +contextual -implicitDefEqProofs only [go_sem]
  constructor
  · intro h1
    have h1 : 4096 < l.length := by simp at h1; omega
    refine RetNow.gives (.inr ?_)
    simp [checkB, h1, I]
  intro h1
  have h1 : l.length ≤ 4096 := by simp at h1; omega
  have hc : checkB l = chkFrom (-1) l := by unfold checkB; rw [if_neg (by omega)]
  rw [hc]
  refine LoopW.up (some ([0, 3], [])) (fun i s => ∃ n, s = ⟨[(0, .dat (.list (l.map Budget.enc) false)), (3, .dat (I i))], [], noneF, n, []⟩ ∧ chkFrom (-1) l = chkFrom (lastNo l i) (l.drop i)) l.length ?_ ?_
  · simp only [go_sem]
    exact ⟨_, rfl, rfl⟩
  · rintro i hi s ⟨n, rfl, hall⟩
    unfold ref18_Check_l0
    simp only [go_sem]
    constructor
    · intro h3
      have h' : i < l.length := by simpa using h3
      have hx := List.getElem?_eq_getElem h'
      have hd := List.drop_eq_getElem_cons h'
      generalize l[i] = x at hx hd
      have hw : IntKind.i64.wrap ((i : Int) + 1) = ((i + 1 : Nat) : Int) := wrap_in (by omega)
      rw [hd] at hall
      simp +contextual -implicitDefEqProofs (maxSteps := 1000000) only [go_sem, hx, hw]
      refine CallX.plain (Right18_ok h x) ?_
      cases i with
      | zero =>
        have h0 : decide (0 < ((0 : Nat) : Int)) = false := by decide
        cases hr : x.right
        · simp +contextual -implicitDefEqProofs (maxSteps := 1000000) only [go_sem, hx, hw, h0]
          refine RetNow.gives (.inr ?_)
          rw [hall, chkFrom_cons, hr]; rfl
        · simp +contextual -implicitDefEqProofs (maxSteps := 1000000) only [go_sem, hx, hw, h0]
          refine ⟨h', _, rfl, ?_⟩
          have := right_parts hr
          have hla : lastNo l 0 = -1 := rfl
          have hla2 : lastNo l (0 + 1) = x.no := by simp [lastNo, hx]
          rw [hall, chkFrom_cons, hla, hla2, if_pos (by simp [hr]; omega)]
      | succ k =>
        have hy := List.getElem?_eq_getElem (show k < l.length by omega)
        generalize l[k] = y at hy
        have hm : IntKind.i64.wrap (((k + 1 : Nat) : Int) - 1) = (k : Int) := by rw [show ((k + 1 : Nat) : Int) - 1 = k by omega]; exact wrap_in (by omega)
        have h0 : decide (0 < ((k + 1 : Nat) : Int)) = true := decide_eq_true (by omega)
        cases hr : x.right
        · simp +contextual -implicitDefEqProofs (maxSteps := 1000000) only [go_sem, hx, hw, h0, hy, hm]
          refine RetNow.gives (.inr ?_)
          rw [hall, chkFrom_cons, hr]; rfl
        · simp +contextual -implicitDefEqProofs (maxSteps := 1000000) only [go_sem, hx, hw, h0, hy, hm]
          have hla : lastNo l (k + 1) = y.no := by simp [lastNo, hy]
          rw [hla] at hall
          constructor
          · intro h4
            refine RetNow.gives (.inr ?_)
            have h4 : x.no ≤ y.no := by simpa using h4
            rw [hall, chkFrom_cons, if_neg (by rw [hr]; simp [h4])]
          · intro h4
            have h4 : y.no < x.no := by simpa using h4
            refine ⟨h', _, rfl, ?_⟩
            have hla2 : lastNo l (k + 1 + 1) = x.no := by simp [lastNo, hx]
            rw [hall, chkFrom_cons, hla2, if_pos (by simp [hr, h4])]
    · intro h3
      refine RetNow.gives (.inr ?_)
      rw [hall, List.drop_eq_nil_of_le (by simpa using h3)]; rfl
theorem fits18 (x : Use) : x.fits = (inR x.doc 0 4095 && isKind x.kind && inR x.value 0 1099511627776 && isTime x.at_ && isTime x.known) := by
  unfold Use.fits within inR isTime isKind
  rw [Bool.eq_iff_iff]
  simp; omega

theorem Uses18_ok (h : In C) (u : List Use) (hu : u.length ≤ 4096) : CallV C (.dat (.fn ref18_Uses_id [] [])) [.dat (.list (u.map Use.enc) false)] noneF (Gives (.dat (.bool (usesFrom [] u)))) := by
  refine h.call ref18_Uses_ok (Nat.le_of_ble_eq_true rfl) fun ℓ hS _ => ?_
  unfold ref18_Uses
  simp +contextual -implicitDefEqProofs only [go_sem]
  refine LoopW.up (some ([0, 3], [])) (fun i s => ∃ n, s = ⟨[(0, .dat (.list (u.map Use.enc) false)), (3, .dat (I i))], [], noneF, n, []⟩ ∧ usesFrom [] u = usesFrom ((u.take i).map (·.doc)) (u.drop i)) u.length ?_ ?_
  · simp only [go_sem]
    exact ⟨_, rfl⟩
  · rintro i hi s ⟨n, rfl, hall⟩
    unfold ref18_Uses_l1
    simp only [go_sem]
    constructor
    · intro h3
      have h' : i < u.length := by simpa using h3
      have hx := List.getElem?_eq_getElem h'
      have hd := List.drop_eq_getElem_cons h'
      have ht : (u.take (i + 1)).map (·.doc) = (u.take i).map (·.doc) ++ [u[i].doc] := by rw [List.take_add_one, List.getElem?_eq_getElem h', List.map_append]; rfl
      generalize u[i] = x at hx hd ht
      have hw : IntKind.i64.wrap ((i : Int) + 1) = ((i + 1 : Nat) : Int) := wrap_in (by omega)
      rw [hd, usesFrom_cons] at hall
      simp +contextual -implicitDefEqProofs (maxSteps := 1000000) only [go_sem, hx, hw]
      refine CallX.plain (within18_ok h x.doc 0 4095) ?_
      simp +contextual -implicitDefEqProofs (maxSteps := 1000000) only [go_sem, hx, hw]
      refine gcall_t ?_ (fun e => ?_) ?_; rotate_left
      · simp only [go_sem, e]; exact kind18_ok h x.kind
      simp +contextual -implicitDefEqProofs (maxSteps := 1000000) only [go_sem, hx, hw]
      refine gcall_f ?_ (fun e => ?_) ?_; rotate_left
      · simp only [go_sem, e]; exact within18_ok h x.value 0 1099511627776
      simp +contextual -implicitDefEqProofs (maxSteps := 1000000) only [go_sem, hx, hw]
      refine gcall_f ?_ (fun e => ?_) ?_; rotate_left
      · simp only [go_sem, e]; exact moment18_ok h x.at_
      simp +contextual -implicitDefEqProofs (maxSteps := 1000000) only [go_sem, hx, hw]
      refine gcall_f ?_ (fun e => ?_) ?_; rotate_left
      · simp only [go_sem, e]; exact moment18_ok h x.known
      simp +contextual -implicitDefEqProofs (maxSteps := 1000000) only [go_sem, hx, hw]
      have hf := fits18 x
      constructor
      · intro h4
        refine RetNow.gives (.inr ?_)
        have : x.fits = false := by
          rw [hf]
          cases e1 : inR x.doc 0 4095 <;> cases e2 : isKind x.kind <;> cases e3 : inR x.value 0 1099511627776 <;> cases e4 : isTime x.at_ <;> cases e5 : isTime x.known <;> simp [e1, e2, e3, e4, e5] at h4 ⊢
        rw [hall, this]; rfl
      intro h4
      have hfit : x.fits = true := by
        rw [hf]
        cases e1 : inR x.doc 0 4095 <;> cases e2 : isKind x.kind <;> cases e3 : inR x.value 0 1099511627776 <;> cases e4 : isTime x.at_ <;> cases e5 : isTime x.known <;> simp [e1, e2, e3, e4, e5] at h4 ⊢
      rw [hfit] at hall
      refine LoopW.up (some ([0, 3, 4], [])) (fun j s => ∃ n, s = ⟨[(0, .dat (.list (u.map Use.enc) false)), (3, .dat (I i)), (4, .dat (I j))], [], noneF, n, []⟩ ∧ ∀ y ∈ u.take j, y.doc ≠ x.doc) i ?_ ?_
      · simp only [go_sem]
        exact ⟨_, rfl, by simp⟩
      · rintro j hj s ⟨n, rfl, hne⟩
        unfold ref18_Uses_l0
        simp only [go_sem]
        constructor
        · intro h5
          have h6 : j < i := by simpa using h5
          have hy := List.getElem?_eq_getElem (show j < u.length by omega)
          have ht2 : u.take (j + 1) = u.take j ++ [u[j]] := by rw [List.take_add_one, List.getElem?_eq_getElem (show j < u.length by omega)]; simp
          have hmem : u[j] ∈ u.take i := List.mem_take_iff_getElem.2 ⟨j, by omega, rfl⟩
          generalize u[j] = y at hy ht2 hmem
          have hw2 : IntKind.i64.wrap ((j : Int) + 1) = ((j + 1 : Nat) : Int) := wrap_in (by omega)
          simp +contextual -implicitDefEqProofs (maxSteps := 1000000) only [go_sem, hx, hy, hw2]
          constructor
          · intro h7
            refine RetNow.gives (.inr ?_)
            have h7 : y.doc = x.doc := by simpa using h7
            have : ((u.take i).map (·.doc)).contains x.doc = true := by
              simp only [List.contains_iff_mem]; exact List.mem_map.2 ⟨y, hmem, h7⟩
            rw [hall, this]; rfl
          · intro h7
            have h7 : y.doc ≠ x.doc := by simpa using h7
            refine ⟨h6, _, rfl, fun z hz => ?_⟩
            rw [ht2] at hz
            rcases List.mem_append.1 hz with hz | hz
            · exact hne z hz
            · simp only [List.mem_singleton] at hz; rw [hz]; exact h7
        · intro h5
          have h6 : j = i := by have : i ≤ j := by simpa using h5
                                omega
          subst h6
          simp +contextual -implicitDefEqProofs (maxSteps := 1000000) only [go_sem, hw]
          refine ⟨h', _, rfl, ?_⟩
          have : ((u.take j).map (·.doc)).contains x.doc = false := by
            rw [Bool.eq_false_iff]
            intro hc
            simp only [List.contains_iff_mem] at hc
            obtain ⟨y, hy, e⟩ := List.mem_map.1 hc
            exact hne y hy e
          rw [hall, this, ht]; rfl
    · intro h3
      refine RetNow.gives (.inr ?_)
      rw [hall, List.drop_eq_nil_of_le (by simpa using h3)]; rfl

end Go.Abs.P

/- Chapter 53: the reference of layer 18: which budgets stand. No conditions. -/
namespace Go.Abs.P
open Go.Proofs
set_option maxRecDepth 10000
variable {C : Ctx}

def later18 (x : Budget) (at_ known : Int) (y : Budget) : Bool := decide (y.kind = x.kind) && decide (y.period = x.period) && counts18 y at_ known && (decide (x.at_ < y.at_) || decide (y.at_ = x.at_) && decide (x.no < y.no))
def stands18 (l : List Budget) (x : Budget) (at_ known : Int) : Bool := !x.gone && counts18 x at_ known && !(l.any (later18 x at_ known))
def pick18 (l : List Budget) (n at_ known : Int) (x : Budget) : Bool := (decide (x.kind = -1) || decide (x.kind = n)) && stands18 l x at_ known
def standing18 (l : List Budget) (n at_ known : Int) : List Budget := l.filter (pick18 l n at_ known)

set_option maxHeartbeats 4000000 in
theorem stands18_ok (h : In C) (l : List Budget) (hl : l.length ≤ 4096) (i : Nat) (x : Budget) (hi : l[i]? = some x) (at_ known : Int) : CallV C (.dat (.fn ref18_stands_id [] [])) [.dat (.list (l.map Budget.enc) false), .dat (I i), .dat (I at_), .dat (I known)] noneF (Gives (.dat (.bool (stands18 l x at_ known)))) := by
  refine h.call ref18_stands_ok (Nat.le_of_ble_eq_true rfl) fun ℓ hS _ => ?_
  unfold ref18_stands
  cases hg : x.gone
  case true =>
    simp +contextual -implicitDefEqProofs only [go_sem, hi, hg]
    refine RetNow.gives (.inr ?_)
    simp [stands18, hg]
  simp +contextual -implicitDefEqProofs only [go_sem, hi, hg]
  refine CallX.plain (by simpa only [go_sem, hg] using counts18_ok h x at_ known) ?_
  simp +contextual -implicitDefEqProofs only [go_sem]
  refine ⟨?_, ?_⟩
  rotate_left
  · intro h1
    refine RetNow.gives (.inr ?_)
    simp [stands18, h1]
  intro h1
  have hst : stands18 l x at_ known = !(l.any (later18 x at_ known)) := by
    simp [stands18, h1, hg]
  refine LoopW.up (some ([0, 2, 3, 9, 10], [9])) (fun k s => ∃ n, s = ⟨[(0, .dat (.list (l.map Budget.enc) false)), (2, .dat (I at_)), (3, .dat (I known)), (9, .ptr (.v ℓ 9 0) 0), (10, .dat (I k))], [(.v ℓ 9 0, .cells [.dat (I x.no), .dat (I x.at_), .dat (I x.known), .dat (I x.kind), .dat (I x.period), .dat (I x.count), .dat (I x.value), .dat (.bool false)])], noneF, n, []⟩ ∧ l.any (later18 x at_ known) = (l.drop k).any (later18 x at_ known)) l.length ?_ ?_
  · simp only [go_sem]
    exact ⟨_, rfl⟩
  · rintro k hk s ⟨n, rfl, hall⟩
    unfold ref18_stands_l0
    simp only [go_sem]
    constructor
    · intro h3
      have h' : k < l.length := by simpa using h3
      have hx := List.getElem?_eq_getElem h'
      have hd := List.drop_eq_getElem_cons h'
      generalize l[k] = y at hx hd
      have hw : IntKind.i64.wrap ((k : Int) + 1) = ((k + 1 : Nat) : Int) := wrap_in (by omega)
      rw [hd, List.any_cons] at hall
      have hgo : later18 x at_ known y = false → l.any (later18 x at_ known) = (l.drop (k + 1)).any (later18 x at_ known) := fun e => by rw [hall, e]; rfl
      cases e1 : decide (y.kind = x.kind)
      · simp +contextual -implicitDefEqProofs (maxSteps := 1000000) only [go_sem, hx, hw, e1]
        exact ⟨h', _, rfl, hgo (by simp [later18, e1])⟩
      cases e2 : decide (y.period = x.period)
      · simp +contextual -implicitDefEqProofs (maxSteps := 1000000) only [go_sem, hx, hw, e1, e2]
        exact ⟨h', _, rfl, hgo (by simp [later18, e2])⟩
      simp +contextual -implicitDefEqProofs (maxSteps := 1000000) only [go_sem, hx, hw, e1, e2]
      refine CallX.plain (counts18_ok h y at_ known) ?_
      cases e3 : counts18 y at_ known
      · simp +contextual -implicitDefEqProofs (maxSteps := 1000000) only [go_sem, hw, e3]
        exact ⟨h', _, rfl, hgo (by simp [later18, e3])⟩
      cases e4 : decide (x.at_ < y.at_)
      case true =>
        simp +contextual -implicitDefEqProofs (maxSteps := 1000000) only [go_sem, hw, e3, e4]
        refine RetNow.gives (.inr ?_)
        rw [hst, hall]; simp [later18, e1, e2, e3, e4]
      cases e5 : decide (y.at_ = x.at_)
      · simp +contextual -implicitDefEqProofs (maxSteps := 1000000) only [go_sem, hw, e3, e4, e5]
        exact ⟨h', _, rfl, hgo (by simp [later18, e4, e5])⟩
      simp +contextual -implicitDefEqProofs (maxSteps := 1000000) only [go_sem, hw, e3, e4, e5]
      constructor
      · intro e6
        refine RetNow.gives (.inr ?_)
        rw [hst, hall]; simp [later18, e1, e2, e3, e5, e6]
      · intro e6
        exact ⟨h', _, rfl, hgo (by simp [later18, e4, e6])⟩
    · intro h3
      refine RetNow.gives (.inr ?_)
      rw [hst, hall, List.drop_eq_nil_of_le (by simpa using h3)]; rfl
end Go.Abs.P

/- Chapter 53: the reference of layer 18: Standing. No conditions. -/
namespace Go.Abs.P
open Go.Proofs
set_option maxRecDepth 10000
variable {C : Ctx}

theorem standing18_ok (h : In C) (l : List Budget) (hl : l.length ≤ 4096) (n at_ known : Int) : CallV C (.dat (.fn ref18_standing_id [] [])) [.dat (.list (l.map Budget.enc) false), .dat (I n), .dat (I at_), .dat (I known)] noneF (Gives (.dat (.list ((standing18 l n at_ known).map Budget.enc) false))) := by
  refine h.call ref18_standing_ok (Nat.le_of_ble_eq_true rfl) fun ℓ hS _ => ?_
  unfold ref18_standing
  simp +contextual -implicitDefEqProofs only [go_sem]
  refine LoopW.sh (some ([0, 1, 2, 3, 9, 10], [46])) (fun i s => ∃ n' k8 xs, s = ⟨[(0, .dat (.list (l.map Budget.enc) false)), (1, .dat (I n)), (2, .dat (I at_)), (3, .dat (I known)), (9, .lst (xs.map Budget.enc) (.v ℓ 46 k8)), (10, .dat (I i))], [(.v ℓ 46 k8, .tok 8)], noneF, n', []⟩ ∧ xs.length ≤ i ∧ standing18 l n at_ known = xs ++ (l.drop i).filter (pick18 l n at_ known)) l.length ?_ ?_
  · refine ⟨_, (Sh.tok C ℓ _ 9 46 8 (by simp only [go_sem])).trans (Sh.keep C ℓ _ (some ([0, 1, 2, 3, 9, 10], [46]))), ?_⟩
    simp only [go_sem]
    exact ⟨_, _, [], rfl, Nat.le_refl _, rfl⟩
  · rintro i hi s ⟨n', k8, xs, rfl, hlen, hst⟩
    unfold ref18_standing_l0
    simp only [go_sem]
    constructor
    · intro h3
      have h' : i < l.length := by simpa using h3
      have hx := List.getElem?_eq_getElem h'
      have hd := List.drop_eq_getElem_cons h'
      generalize l[i] = x at hx hd
      have hw : IntKind.i64.wrap ((i : Int) + 1) = ((i + 1 : Nat) : Int) := wrap_in (by omega)
      have hm : xs.length + 1 ≤ mostLen := by unfold mostLen; omega
      rw [hd, List.filter_cons] at hst
      cases e1 : (decide (x.kind = -1) || decide (x.kind = n))
      · have e2 : decide (x.kind = -1) = false := by cases e : decide (x.kind = -1) <;> simp [e] at e1 ⊢
        have e3 : decide (x.kind = n) = false := by cases e : decide (x.kind = n) <;> simp [e, e2] at e1 ⊢
        have hp : pick18 l n at_ known x = false := by simp [pick18, e1]
        simp +contextual -implicitDefEqProofs (maxSteps := 1000000) only [go_sem, hx, hw, hm, e2, e3]
        rw [hp, if_neg (by simp)] at hst
        exact ⟨h', _, Sh.refl C ℓ _, _, _, xs, rfl, by omega, hst⟩
      · have hp : pick18 l n at_ known x = stands18 l x at_ known := by simp only [pick18, e1, Bool.true_and]
        rw [hp] at hst
        cases e2 : decide (x.kind = -1)
        · have e3 : decide (x.kind = n) = true := by rw [e2] at e1; simpa using e1
          simp +contextual -implicitDefEqProofs (maxSteps := 1000000) only [go_sem, hx, hw, hm, e2, e3]
          refine CallX.plain (stands18_ok h l hl i x hx at_ known) ?_
          simp +contextual -implicitDefEqProofs (maxSteps := 1000000) only [go_sem, hx, hw, hm]
          constructor
          · intro h4
            rw [h4, if_pos rfl] at hst
            exact ⟨h', _, Sh.refl C ℓ _, n' + 1, n', xs ++ [x], by rw [List.map_append]; rfl, by simp; omega, by rw [hst]; simp⟩
          · intro h4
            rw [h4, if_neg (by simp)] at hst
            exact ⟨h', _, Sh.refl C ℓ _, _, _, xs, rfl, by omega, hst⟩
        · simp +contextual -implicitDefEqProofs (maxSteps := 1000000) only [go_sem, hx, hw, hm, e2]
          refine CallX.plain (stands18_ok h l hl i x hx at_ known) ?_
          simp +contextual -implicitDefEqProofs (maxSteps := 1000000) only [go_sem, hx, hw, hm]
          constructor
          · intro h4
            rw [h4, if_pos rfl] at hst
            exact ⟨h', _, Sh.refl C ℓ _, n' + 1, n', xs ++ [x], by rw [List.map_append]; rfl, by simp; omega, by rw [hst]; simp⟩
          · intro h4
            rw [h4, if_neg (by simp)] at hst
            exact ⟨h', _, Sh.refl C ℓ _, _, _, xs, rfl, by omega, hst⟩
    · intro h3
      rw [List.drop_eq_nil_of_le (by simpa using h3)] at hst
      refine RetNow.gives (.inl ?_)
      rw [hst]; simp [D.out, D.out1]

def standing18R (l : List Budget) (n at_ known : Int) : List Budget × Int :=
  if checkB l ≠ 0 then ([], checkB l) else if isKind n && isTime at_ && isTime known then (standing18 l n at_ known, 0) else ([], 1)

theorem Standing18_ok (h : In C) (l : List Budget) (n at_ known : Int) : CallV C (.dat (.fn ref18_Standing_id [] [])) [.dat (.list (l.map Budget.enc) false), .dat (I n), .dat (I at_), .dat (I known)] noneF
    (Gives (.dat (encR ((standing18R l n at_ known).1.map Budget.enc) (standing18R l n at_ known).2))) := by
  refine h.call ref18_Standing_ok (Nat.le_of_ble_eq_true rfl) fun ℓ hS _ => ?_
  unfold ref18_Standing
  simp +contextual -implicitDefEqProofs only [go_sem]
  refine CallX.plain (Check18_ok h l) ?_
  simp +contextual -implicitDefEqProofs only [go_sem]
  refine ⟨?_, ?_⟩
  rotate_left
  · intro h1
    have h1 : checkB l ≠ 0 := by simpa using h1
    refine RetNow.gives (.inl ?_)
    simp [standing18R, h1, I, encR, D.out, Dat.wk, Dat.wk1]
  intro h1
  have h1 : checkB l = 0 := by simpa using h1
  refine CallX.plain (kind18_ok h n) ?_
  simp +contextual -implicitDefEqProofs only [go_sem]
  refine gcall_t ?_ (fun e => ?_) ?_; rotate_left
  · simp only [go_sem, e]; exact moment18_ok h at_
  simp +contextual -implicitDefEqProofs only [go_sem]
  refine gcall_f ?_ (fun e => ?_) ?_; rotate_left
  · simp only [go_sem, e]; exact moment18_ok h known
  simp +contextual -implicitDefEqProofs only [go_sem]
  constructor
  · intro h2
    have h2 : (isKind n && isTime at_ && isTime known) = false := by
      cases e1 : isKind n <;> cases e2 : isTime at_ <;> cases e3 : isTime known <;> simp [e1, e2, e3] at h2 ⊢
    refine RetNow.gives (.inl ?_)
    simp only [standing18R, h1, h2]; rfl
  · intro h2
    have h2 : (isKind n && isTime at_ && isTime known) = true := by
      cases e1 : isKind n <;> cases e2 : isTime at_ <;> cases e3 : isTime known <;> simp [e1, e2, e3] at h2 ⊢
    refine CallX.plain (standing18_ok h l (checkB_len h1) n at_ known) ?_
    simp +contextual -implicitDefEqProofs only [go_sem]
    refine RetNow.gives (.inl ?_)
    simp only [standing18R, h1, h2]; rfl

def hasB (l : List Budget) (no : Int) : Bool := l.any fun x => decide (x.no = no)
theorem has_ok (h : In C) (l : List Budget) (hl : l.length ≤ 4096) (no : Int) : CallV C (.dat (.fn ref53_has_id [] [])) [.dat (.list (l.map Budget.enc) false), .dat (I no)] noneF (Gives (.dat (.bool (hasB l no)))) := by
  refine h.call ref53_has_ok (Nat.le_of_ble_eq_true rfl) fun ℓ hS _ => ?_
  unfold ref53_has
  simp +contextual -implicitDefEqProofs only [go_sem]
  refine LoopW.up (some ([0, 1, 5], [])) (fun i s => ∃ n, s = ⟨[(0, .dat (.list (l.map Budget.enc) false)), (1, .dat (I no)), (5, .dat (I i))], [], noneF, n, []⟩ ∧ hasB l no = hasB (l.drop i) no) l.length ?_ ?_
  · simp only [go_sem]
    exact ⟨_, rfl⟩
  · rintro i hi s ⟨n, rfl, hall⟩
    unfold ref53_has_l0
    simp only [go_sem]
    constructor
    · intro h3
      have h' : i < l.length := by simpa using h3
      have hx := List.getElem?_eq_getElem h'
      have hd := List.drop_eq_getElem_cons h'
      generalize l[i] = x at hx hd
      have hw : IntKind.i64.wrap ((i : Int) + 1) = ((i + 1 : Nat) : Int) := wrap_in (by omega)
      rw [hd] at hall
      simp +contextual -implicitDefEqProofs (maxSteps := 1000000) only [go_sem, hx, hw]
      constructor
      · intro h4
        refine RetNow.gives (.inr ?_)
        rw [hall]; simp [hasB, h4]
      · intro h4
        refine ⟨h', _, rfl, ?_⟩
        rw [hall]; simp [hasB, h4]
    · intro h3
      refine RetNow.gives (.inr ?_)
      rw [hall, List.drop_eq_nil_of_le (by simpa using h3)]; rfl

def findI (l : List Budget) (no : Int) : Option Nat := l.findIdx? fun x => decide (x.no = no) && !x.gone
theorem Error53_ok (h : In C) (l : List Budget) (u : List Use) : CallV C (.dat (.fn ref53_Error_id [] [])) [.dat (.list (l.map Budget.enc) false), .dat (.list (u.map Use.enc) false)] noneF (Gives (.dat (I (examine l u)))) := by
  refine h.call ref53_Error_ok (Nat.le_of_ble_eq_true rfl) fun ℓ hS _ => ?_
  unfold ref53_Error
  simp +contextual -implicitDefEqProofs only [go_sem]
  refine CallX.plain (Check18_ok h l) ?_
  simp +contextual -implicitDefEqProofs only [go_sem]
  refine ⟨?_, ?_⟩
  rotate_left
  · intro h1
    have h1 : checkB l ≠ 0 := by simpa using h1
    refine RetNow.gives (.inr ?_)
    simp [examine, h1, I]
  intro h1
  have h1 : checkB l = 0 := by simpa using h1
  constructor
  · intro h2
    have h2 : 4096 < u.length := by simp at h2; omega
    refine RetNow.gives (.inr ?_)
    simp [examine, h1, h2, I]
  intro h2
  have h2 : u.length ≤ 4096 := by simp at h2; omega
  refine CallX.plain (Uses18_ok h u h2) ?_
  simp +contextual -implicitDefEqProofs only [go_sem]
  have he : examine l u = if usesFrom [] u then 0 else 180 := by unfold examine; rw [if_neg (by simp [h1]), if_neg (by omega)]
  constructor
  · intro h3
    refine RetNow.gives (.inr ?_)
    rw [he, h3]; rfl
  · intro h3
    refine RetNow.gives (.inr ?_)
    rw [he, h3]; rfl
end Go.Abs.P

/- Chapter 53: the reference: Find, of, spent, tooMuch, Spent. No conditions. -/
namespace Go.Abs.P
open Go.Proofs
set_option maxRecDepth 10000
variable {C : Ctx}

def findFrom (no : Int) (i : Nat) : List Budget → Int
  | [] => -1
  | x :: l => if decide (x.no = no) && !x.gone then i else findFrom no (i + 1) l
theorem findFrom_cons (no : Int) (i : Nat) (x : Budget) (l : List Budget) : findFrom no i (x :: l) = if decide (x.no = no) && !x.gone then (i : Int) else findFrom no (i + 1) l := rfl
theorem find_spec (no : Int) : ∀ (l : List Budget) (i : Nat), (match findB l no with | none => findFrom no i l = -1 | some b => ∃ k : Nat, findFrom no i l = ((i + k : Nat) : Int) ∧ l[k]? = some b)
  | [], i => by simp [findB, findFrom]
  | x :: l, i => by
    have ih := find_spec no l (i + 1)
    cases hp : (decide (x.no = no) && !x.gone)
    · have h1 : findB (x :: l) no = findB l no := by unfold findB; rw [List.find?_cons_of_neg (by simp [hp])]
      rw [h1, findFrom_cons, hp]
      cases e : findB l no with
      | none => rw [e] at ih; simpa using ih
      | some b =>
        rw [e] at ih
        obtain ⟨k, h2, h3⟩ := ih
        exact ⟨k + 1, by rw [if_neg (by simp), h2]; omega, by simpa using h3⟩
    · have h1 : findB (x :: l) no = some x := by unfold findB; rw [List.find?_cons_of_pos (by simp [hp])]
      rw [h1, findFrom_cons, hp]
      exact ⟨0, by simp, by simp⟩

theorem Find53_ok (h : In C) (l : List Budget) (hl : l.length ≤ 9223372036854775807) (no : Int) : CallV C (.dat (.fn ref53_Find_id [] [])) [.dat (.list (l.map Budget.enc) false), .dat (I no)] noneF (Gives (.dat (I (findFrom no 0 l)))) := by
  refine h.call ref53_Find_ok (Nat.le_of_ble_eq_true rfl) fun ℓ hS _ => ?_
  unfold ref53_Find
  simp +contextual -implicitDefEqProofs only [go_sem]
  refine LoopW.up (some ([0, 1, 5], [])) (fun i s => ∃ n, s = ⟨[(0, .dat (.list (l.map Budget.enc) false)), (1, .dat (I no)), (5, .dat (I i))], [], noneF, n, []⟩ ∧ findFrom no 0 l = findFrom no i (l.drop i)) l.length ?_ ?_
  · simp only [go_sem]
    exact ⟨_, rfl⟩
  · rintro i hi s ⟨n, rfl, hall⟩
    unfold ref53_Find_l0
    simp only [go_sem]
    constructor
    · intro h3
      have h' : i < l.length := by simpa using h3
      have hx := List.getElem?_eq_getElem h'
      have hd := List.drop_eq_getElem_cons h'
      generalize l[i] = x at hx hd
      have hw : IntKind.i64.wrap ((i : Int) + 1) = ((i + 1 : Nat) : Int) := wrap_in (by omega)
      rw [hd, findFrom_cons] at hall
      simp +contextual -implicitDefEqProofs (maxSteps := 1000000) only [go_sem, hx, hw]
      constructor
      · intro h4
        refine RetNow.gives (.inr ?_)
        rw [hall, h4]; rfl
      · intro h4
        refine ⟨h', _, rfl, ?_⟩
        rw [hall, h4]; rfl
    · intro h3
      refine RetNow.gives (.inr ?_)
      rw [hall, List.drop_eq_nil_of_le (by simpa using h3)]; rfl

def of53 (b : Budget) (x : Use) (known : Int) : Bool := decide (x.known ≤ known) && (decide (b.kind = -1) || decide (b.kind = x.kind))
theorem of53_ok (h : In C) (b : Budget) (x : Use) (known : Int) : CallV C (.dat (.fn ref53_of_id [] [])) [.dat b.enc, .dat x.enc, .dat (I known)] noneF (Gives (.dat (.bool (of53 b x known)))) := by
  refine h.call ref53_of_ok (Nat.le_of_ble_eq_true rfl) fun ℓ hS _ => ?_
  unfold ref53_of
  cases e1 : decide (x.known ≤ known)
  · simp +contextual -implicitDefEqProofs only [go_sem, e1]
    refine RetNow.gives (.inr ?_)
    simp [of53, e1]
  · cases e2 : decide (b.kind = -1)
    · simp +contextual -implicitDefEqProofs only [go_sem, e1, e2]
      refine RetNow.gives (.inr ?_)
      simp [of53, e1, e2]
    · simp +contextual -implicitDefEqProofs only [go_sem, e1, e2]
      refine RetNow.gives (.inr ?_)
      simp [of53, e1, e2]
theorem of53_kind {b : Budget} (hk : -1 ≤ b.kind) (x : Use) (known : Int) : of53 b x known = (decide (x.known ≤ known) && (decide (b.kind < 0) || decide (b.kind = x.kind))) := by
  unfold of53
  have : decide (b.kind = -1) = decide (b.kind < 0) := decide_eq_decide.2 (by omega)
  rw [this]

theorem spent53_ok (h : In C) (b : Budget) (u : List Use) (hu : u.length ≤ 4096) (hk : -1 ≤ b.kind) (hp : b.period ≠ 0) (at_ known : Int) : CallV C (.dat (.fn ref53_spent_id [] [])) [.dat b.enc, .dat (.list (u.map Use.enc) false), .dat (I at_), .dat (I known)] noneF (Gives (.dat (.tup [I (spentOf ⟨b, u, known⟩ at_).1, I (spentOf ⟨b, u, known⟩ at_).2]))) := by
  refine h.call ref53_spent_ok (Nat.le_of_ble_eq_true rfl) fun ℓ hS _ => ?_
  unfold ref53_spent
  simp +contextual -implicitDefEqProofs only [go_sem]
  refine LoopW.up (some ([1, 2, 3, 4, 10, 11, 12], [4])) (fun i s => ∃ n c v, s = ⟨[(1, .dat (.list (u.map Use.enc) false)), (2, .dat (I at_)), (3, .dat (I known)), (4, .ptr (.v ℓ 4 0) 0), (10, .dat (I c)), (11, .dat (I v)), (12, .dat (I i))], [(.v ℓ 4 0, .cells [.dat (I b.no), .dat (I b.at_), .dat (I b.known), .dat (I b.kind), .dat (I b.period), .dat (I b.count), .dat (I b.value), .dat (.bool b.gone)])], noneF, n, []⟩ ∧ spentOf ⟨b, u, known⟩ at_ = addUp c v (((u.drop i).filter (counts ⟨b, u, known⟩ (IntKind.i64.wrap (at_.tdiv b.period)))).filter fun x => decide (x.at_ ≤ at_))) u.length ?_ ?_
  · simp only [go_sem]
    exact ⟨_, _, _, rfl, rfl⟩
  · rintro i hi s ⟨n, c, v, rfl, hall⟩
    unfold ref53_spent_l0
    simp only [go_sem]
    constructor
    · intro h3
      have h' : i < u.length := by simpa using h3
      have hx := List.getElem?_eq_getElem h'
      have hd := List.drop_eq_getElem_cons h'
      generalize u[i] = x at hx hd
      have hw : IntKind.i64.wrap ((i : Int) + 1) = ((i + 1 : Nat) : Int) := wrap_in (by omega)
      rw [hd, List.filter_cons] at hall
      have hcnt : counts ⟨b, u, known⟩ (IntKind.i64.wrap (at_.tdiv b.period)) x = (of53 b x known && decide (IntKind.i64.wrap (x.at_.tdiv b.period) = IntKind.i64.wrap (at_.tdiv b.period))) := by
        rw [of53_kind hk]; rfl
      simp +contextual -implicitDefEqProofs (maxSteps := 1000000) only [go_sem, hx, hw]
      refine CallX.plain (of53_ok h b x known) ?_
      cases e1 : of53 b x known
      · simp +contextual -implicitDefEqProofs (maxSteps := 1000000) only [go_sem, hx, hw, hp, e1]
        refine ⟨h', _, _, _, rfl, ?_⟩
        rw [hall, hcnt, e1]; rfl
      cases e2 : decide (x.at_ ≤ at_)
      · simp +contextual -implicitDefEqProofs (maxSteps := 1000000) only [go_sem, hx, hw, hp, e1, e2]
        refine ⟨h', _, _, _, rfl, ?_⟩
        rw [hall]
        cases counts ⟨b, u, known⟩ (IntKind.i64.wrap (at_.tdiv b.period)) x
        · rfl
        · rw [if_pos rfl, List.filter_cons, e2]; rfl
      simp +contextual -implicitDefEqProofs (maxSteps := 1000000) only [go_sem, hx, hw, hp, e1, e2]
      constructor
      · intro h4
        refine ⟨h', _, _, _, rfl, ?_⟩
        rw [hall, hcnt, e1, h4, Bool.and_self, if_pos rfl, List.filter_cons, e2]; rfl
      · intro h4
        refine ⟨h', _, _, _, rfl, ?_⟩
        rw [hall, hcnt, e1, h4]; rfl
    · intro h3
      refine RetNow.gives (.inr ?_)
      rw [hall, List.drop_eq_nil_of_le (by simpa using h3)]; rfl

theorem tooMuch_ok (h : In C) (b : Budget) (u : List Use) (hu : u.length ≤ 4096) (hk : -1 ≤ b.kind) (hp : b.period ≠ 0) (at_ known : Int) : CallV C (.dat (.fn ref53_tooMuch_id [] [])) [.dat b.enc, .dat (.list (u.map Use.enc) false), .dat (I at_), .dat (I known)] noneF (Gives (.dat (.bool (!fine b (spentOf ⟨b, u, known⟩ at_).1 (spentOf ⟨b, u, known⟩ at_).2)))) := by
  refine h.call ref53_tooMuch_ok (Nat.le_of_ble_eq_true rfl) fun ℓ hS _ => ?_
  unfold ref53_tooMuch
  simp +contextual -implicitDefEqProofs only [go_sem]
  refine CallX.plain (spent53_ok h b u hu hk hp at_ known) ?_
  generalize spentOf ⟨b, u, known⟩ at_ = p
  simp +contextual -implicitDefEqProofs only [go_sem]
  refine RetNow.gives (.inr ?_)
  unfold fine
  rw [Bool.not_and]
  have e1 : (!decide (p.1 ≤ b.count)) = decide (b.count < p.1) := by rw [← decide_not]; exact decide_eq_decide.2 (by omega)
  have e2 : (!decide (p.2 ≤ b.value)) = decide (b.value < p.2) := by rw [← decide_not]; exact decide_eq_decide.2 (by omega)
  rw [e1, e2]

theorem Spent53_ok (h : In C) (l : List Budget) (u : List Use) (no at_ known : Int) : CallV C (.dat (.fn ref53_Spent_id [] [])) [.dat (.list (l.map Budget.enc) false), .dat (.list (u.map Use.enc) false), .dat (I no), .dat (I at_), .dat (I known)] noneF
    (Gives (.dat (.tup [I (spentR l u no at_ known).1, I (spentR l u no at_ known).2.1, I (spentR l u no at_ known).2.2]))) := by
  refine h.call ref53_Spent_ok (Nat.le_of_ble_eq_true rfl) fun ℓ hS _ => ?_
  unfold ref53_Spent
  simp +contextual -implicitDefEqProofs only [go_sem]
  refine CallX.plain (Error53_ok h l u) ?_
  simp +contextual -implicitDefEqProofs only [go_sem]
  refine ⟨?_, ?_⟩
  rotate_left
  · intro h1
    have h1 : examine l u ≠ 0 := by simpa using h1
    refine RetNow.gives (.inr ?_)
    simp [spentR, h1, I]
  intro h1
  have h1 : examine l u = 0 := by simpa using h1
  obtain ⟨hc, hu, _⟩ := examine_parts h1
  refine CallX.plain (Find53_ok h l (Nat.le_trans (checkB_len hc) (by omega)) no) ?_
  have hsp := find_spec no l 0
  have hwi : within 1099511627776 [at_, known] = (isTime at_ && isTime known) := by simp [within, isTime]
  cases hf : findB l no with
  | none =>
    rw [hf] at hsp
    simp only at hsp
    have hneg : decide (findFrom no 0 l < 0) = true := by rw [hsp]; decide
    simp +contextual -implicitDefEqProofs only [go_sem, hneg]
    refine RetNow.gives (.inr ?_)
    simp [spentR, h1, hf, I]
  | some b =>
    rw [hf] at hsp
    obtain ⟨k, hk1, hk2⟩ := hsp
    rw [Nat.zero_add] at hk1
    have hb := right_parts (checkB_right hc b (findB_mem hf))
    have hneg : decide (((k : Nat) : Int) < 0) = false := decide_eq_false (by omega)
    rw [hk1]
    simp +contextual -implicitDefEqProofs only [go_sem, hneg]
    refine CallX.plain (Time53_ok h at_) ?_
    simp +contextual -implicitDefEqProofs only [go_sem]
    refine gcall_t ?_ (fun e => ?_) ?_; rotate_left
    · simp only [go_sem, e]; exact Time53_ok h known
    simp +contextual -implicitDefEqProofs only [go_sem, hk2]
    constructor
    · intro h2
      have h2 : (isTime at_ && isTime known) = false := by
        cases e1 : isTime at_ <;> cases e2 : isTime known <;> simp [e1, e2] at h2 ⊢
      refine RetNow.gives (.inr ?_)
      simp only [spentR, h1, hf, hwi, h2]; rfl
    · intro h2
      have h2 : (isTime at_ && isTime known) = true := by
        cases e1 : isTime at_ <;> cases e2 : isTime known <;> simp [e1, e2] at h2 ⊢
      refine CallX.plain (spent53_ok h b u hu (by omega) (by omega) at_ known) ?_
      simp +contextual -implicitDefEqProofs only [go_sem]
      refine RetNow.gives (.inr ?_)
      simp only [spentR, h1, hf, hwi, h2]; rfl
end Go.Abs.P

/- Chapter 53: the reference: Over; equality of lists. No conditions. -/
namespace Go.Abs.P
open Go.Proofs
set_option maxRecDepth 10000
variable {C : Ctx}

def over1 (l : List Budget) (u : List Use) (known : Int) (b : Budget) (x : Use) : Bool :=
  !decide (known < x.known) && (hasB (standing18 l x.kind x.at_ known) b.no && !fine b (spentOf ⟨b, u, known⟩ x.at_).1 (spentOf ⟨b, u, known⟩ x.at_).2)
def over53 (l : List Budget) (u : List Use) (known : Int) (b : Budget) : Bool := u.any (over1 l u known b)
theorem isTime_parts {n : Int} (h : 0 ≤ n ∧ n < 1099511627776) : isTime n = true := by simp [isTime, h]
theorem isKind_parts {n : Int} (h : 0 ≤ n ∧ n < 16) : isKind n = true := by simp [isKind, h]

set_option maxHeartbeats 1000000 in
theorem over53_ok (h : In C) (l : List Budget) (u : List Use) (known : Int) (he : examine l u = 0) (hk : 0 ≤ known ∧ known < 1099511627776) (b : Budget) (hb : b ∈ l) : CallV C (.dat (.fn ref53_over_id [] [])) [.dat (.list (l.map Budget.enc) false), .dat b.enc, .dat (.list (u.map Use.enc) false), .dat (I known)] noneF (Gives (.dat (.bool (over53 l u known b)))) := by
  obtain ⟨hc, hu, huf⟩ := examine_parts he
  have hfits := usesFrom_fits u [] huf
  have hbr := right_parts (checkB_right hc b hb)
  refine h.call ref53_over_ok (Nat.le_of_ble_eq_true rfl) fun ℓ hS _ => ?_
  unfold ref53_over
  simp +contextual -implicitDefEqProofs only [go_sem]
  refine LoopW.up (some ([0, 2, 3, 5, 9], [5])) (fun i s => ∃ n, s = ⟨[(0, .dat (.list (l.map Budget.enc) false)), (2, .dat (.list (u.map Use.enc) false)), (3, .dat (I known)), (5, .ptr (.v ℓ 5 0) 0), (9, .dat (I i))], [(.v ℓ 5 0, .cells [.dat (I b.no), .dat (I b.at_), .dat (I b.known), .dat (I b.kind), .dat (I b.period), .dat (I b.count), .dat (I b.value), .dat (.bool b.gone)])], noneF, n, []⟩ ∧ over53 l u known b = (u.drop i).any (over1 l u known b)) u.length ?_ ?_
  · simp only [go_sem]
    exact ⟨_, rfl, rfl⟩
  · rintro i hi s ⟨n, rfl, hall⟩
    unfold ref53_over_l0
    simp only [go_sem]
    constructor
    · intro h3
      have h' : i < u.length := by simpa using h3
      have hx := List.getElem?_eq_getElem h'
      have hd := List.drop_eq_getElem_cons h'
      have hxm : u[i] ∈ u := List.getElem_mem h'
      generalize u[i] = x at hx hd hxm
      have hfx := fits_parts (hfits x hxm)
      have hw : IntKind.i64.wrap ((i : Int) + 1) = ((i + 1 : Nat) : Int) := wrap_in (by omega)
      rw [hd, List.any_cons] at hall
      have hgo : over1 l u known b x = false → over53 l u known b = (u.drop (i + 1)).any (over1 l u known b) := fun e => by rw [hall, e]; rfl
      simp +contextual -implicitDefEqProofs (maxSteps := 1000000) only [go_sem, hx, hw]
      constructor
      · intro h4
        exact ⟨h', _, rfl, hgo (by simp [over1, h4])⟩
      · intro h4
        have hst := Standing18_ok h l x.kind x.at_ known
        have hR : standing18R l x.kind x.at_ known = (standing18 l x.kind x.at_ known, 0) := by
          unfold standing18R; rw [if_neg (by simp [hc]), isKind_parts hfx.2.1, isTime_parts hfx.2.2.2.1, isTime_parts hk]; rfl
        rw [hR] at hst
        refine CallX.plain hst ?_
        simp +contextual -implicitDefEqProofs (maxSteps := 1000000) only [go_sem, encR]
        have hlen : (standing18 l x.kind x.at_ known).length ≤ 4096 := Nat.le_trans (List.length_filter_le _ _) (checkB_len hc)
        refine CallX.plain (has_ok h _ hlen b.no) ?_
        cases e1 : hasB (standing18 l x.kind x.at_ known) b.no
        · simp +contextual -implicitDefEqProofs (maxSteps := 1000000) only [go_sem, hw, hx, e1]
          exact ⟨h', _, rfl, hgo (by simp [over1, e1])⟩
        simp +contextual -implicitDefEqProofs (maxSteps := 1000000) only [go_sem, hw, hx, e1]
        refine CallX.plain (tooMuch_ok h b u hu (by omega) (by omega) x.at_ known) ?_
        simp +contextual -implicitDefEqProofs (maxSteps := 1000000) only [go_sem, hw]
        constructor
        · intro h5
          exact ⟨h', _, rfl, hgo (by simp [over1, h5])⟩
        · intro h5
          refine RetNow.gives (.inr ?_)
          rw [hall]; simp [over1, h4, e1, h5]
    · intro h3
      refine RetNow.gives (.inr ?_)
      rw [hall, List.drop_eq_nil_of_le (by simpa using h3)]; rfl

def over53R (l : List Budget) (u : List Use) (known : Int) : List Int × Int :=
  if examine l u ≠ 0 then ([], examine l u) else if isTime known then ((l.filter (over53 l u known)).map (·.no), 0) else ([], 1)

theorem Over53_ok (h : In C) (l : List Budget) (u : List Use) (known : Int) : CallV C (.dat (.fn ref53_Over_id [] [])) [.dat (.list (l.map Budget.enc) false), .dat (.list (u.map Use.enc) false), .dat (I known)] noneF
    (Gives (.dat (encR ((over53R l u known).1.map I) (over53R l u known).2))) := by
  refine h.call ref53_Over_ok (Nat.le_of_ble_eq_true rfl) fun ℓ hS _ => ?_
  unfold ref53_Over
  simp +contextual -implicitDefEqProofs only [go_sem]
  refine CallX.plain (Error53_ok h l u) ?_
  simp +contextual -implicitDefEqProofs only [go_sem]
  refine ⟨?_, ?_⟩
  rotate_left
  · intro h1
    have h1 : examine l u ≠ 0 := by simpa using h1
    refine RetNow.gives (.inl ?_)
    simp [over53R, h1, I, encR, D.out, Dat.wk, Dat.wk1]
  intro h1
  have h1 : examine l u = 0 := by simpa using h1
  obtain ⟨hc, hu, huf⟩ := examine_parts h1
  refine CallX.plain (Time53_ok h known) ?_
  simp +contextual -implicitDefEqProofs only [go_sem]
  refine ⟨?_, ?_⟩
  rotate_left
  · intro h2
    refine RetNow.gives (.inl ?_)
    simp [over53R, h1, h2, I, encR, D.out, Dat.wk, Dat.wk1]
  intro h2
  have hk : 0 ≤ known ∧ known < 1099511627776 := by simpa [isTime] using h2
  have hR : over53R l u known = ((l.filter (over53 l u known)).map (·.no), 0) := by
    unfold over53R; rw [if_neg (by simp [h1]), if_pos h2]
  rw [hR]
  have hl := checkB_len hc
  refine LoopW.sh (some ([0, 1, 2, 9, 10], [42])) (fun i s => ∃ n' k8 xs, s = ⟨[(0, .dat (.list (l.map Budget.enc) false)), (1, .dat (.list (u.map Use.enc) false)), (2, .dat (I known)), (9, .lst (xs.map I) (.v ℓ 42 k8)), (10, .dat (I i))], [(.v ℓ 42 k8, .tok 1)], noneF, n', []⟩ ∧ xs.length ≤ i ∧ (l.filter (over53 l u known)).map (·.no) = xs ++ ((l.drop i).filter (over53 l u known)).map (·.no)) l.length ?_ ?_
  · refine ⟨_, (Sh.tok C ℓ _ 9 42 1 (by simp only [go_sem])).trans (Sh.keep C ℓ _ (some ([0, 1, 2, 9, 10], [42]))), ?_⟩
    simp only [go_sem]
    exact ⟨_, _, [], rfl, Nat.le_refl _, rfl⟩
  · rintro i hi s ⟨n', k8, xs, rfl, hlen, hst⟩
    unfold ref53_Over_l0
    simp only [go_sem]
    constructor
    · intro h3
      have h' : i < l.length := by simpa using h3
      have hx := List.getElem?_eq_getElem h'
      have hd := List.drop_eq_getElem_cons h'
      have hxm : l[i] ∈ l := List.getElem_mem h'
      generalize l[i] = x at hx hd hxm
      have hw : IntKind.i64.wrap ((i : Int) + 1) = ((i + 1 : Nat) : Int) := wrap_in (by omega)
      have hm : xs.length + 1 ≤ mostLen := by unfold mostLen; omega
      rw [hd, List.filter_cons] at hst
      simp +contextual -implicitDefEqProofs (maxSteps := 1000000) only [go_sem, hx, hw, hm]
      refine CallX.plain (over53_ok h l u known h1 hk x hxm) ?_
      simp +contextual -implicitDefEqProofs (maxSteps := 1000000) only [go_sem, hx, hw, hm]
      constructor
      · intro h4
        rw [h4, if_pos rfl] at hst
        exact ⟨h', _, Sh.refl C ℓ _, n' + 1, n', xs ++ [x.no], by rw [List.map_append]; rfl, by simp; omega, by rw [hst]; simp⟩
      · intro h4
        rw [h4, if_neg (by simp)] at hst
        exact ⟨h', _, Sh.refl C ℓ _, _, _, xs, rfl, by omega, hst⟩
    · intro h3
      rw [List.drop_eq_nil_of_le (by simpa using h3)] at hst
      refine RetNow.gives (.inl ?_)
      rw [hst]; simp [D.out, D.out1, encR, I]; rfl

def few (l : List Budget) (u : List Use) : Bool := (decide (l.length ≤ 20) || decide (4096 < l.length) && decide (l.length ≤ 4200)) && (decide (u.length ≤ 20) || decide (4096 < u.length) && decide (u.length ≤ 4200))
set_option maxHeartbeats 4000000 in
theorem Few_ok (h : In C) (l : List Budget) (u : List Use) : CallV C (.dat (.fn ref53_Few_id [] [])) [.dat (.list (l.map Budget.enc) false), .dat (.list (u.map Use.enc) false)] noneF (Gives (.dat (.bool (few l u)))) := by
  refine h.call ref53_Few_ok (Nat.le_of_ble_eq_true rfl) fun ℓ hS _ => ?_
  unfold ref53_Few
  have c1 : decide ((l.length : Int) ≤ 20) = decide (l.length ≤ 20) := decide_eq_decide.2 (by omega)
  have c2 : decide ((4096 : Int) < (l.length : Int)) = decide (4096 < l.length) := decide_eq_decide.2 (by omega)
  have c3 : decide ((l.length : Int) ≤ 4200) = decide (l.length ≤ 4200) := decide_eq_decide.2 (by omega)
  have d1 : decide ((u.length : Int) ≤ 20) = decide (u.length ≤ 20) := decide_eq_decide.2 (by omega)
  have d2 : decide ((4096 : Int) < (u.length : Int)) = decide (4096 < u.length) := decide_eq_decide.2 (by omega)
  have d3 : decide ((u.length : Int) ≤ 4200) = decide (u.length ≤ 4200) := decide_eq_decide.2 (by omega)
  unfold few
  cases e1 : decide (l.length ≤ 20) <;> cases e2 : decide (4096 < l.length) <;> cases e3 : decide (l.length ≤ 4200) <;> cases e4 : decide (u.length ≤ 20) <;> cases e5 : decide (4096 < u.length) <;> cases e6 : decide (u.length ≤ 4200) <;>
  · simp +contextual -implicitDefEqProofs only [go_sem, c1, c2, c3, d1, d2, d3, e1, e2, e3, e4, e5, e6]
    exact RetNow.gives (.inr (by first | rfl | simp))

theorem SameInts_ok (h : In C) (a b : List Int) (ha : a.length ≤ 1048576) : CallV C (.dat (.fn ref53_SameInts_id [] [])) [.dat (.list (a.map I) false), .dat (.list (b.map I) false)] noneF (Gives (.dat (.bool (decide (a = b))))) := by
  refine h.call ref53_SameInts_ok (Nat.le_of_ble_eq_true rfl) fun ℓ hS _ => ?_
  unfold ref53_SameInts
  simp +contextual -implicitDefEqProofs only [go_sem]
  refine ⟨?_, ?_⟩
  rotate_left
  · intro h1
    refine RetNow.gives (.inr ?_)
    have h1 : a.length ≠ b.length := by simp at h1; omega
    have : a ≠ b := fun e => h1 (by rw [e])
    simp [this]
  intro h1
  have h1 : a.length = b.length := by simp at h1; omega
  refine LoopW.up (some ([0, 1, 5], [])) (fun i s => ∃ n, s = ⟨[(0, .dat (.list (a.map I) false)), (1, .dat (.list (b.map I) false)), (5, .dat (I i))], [], noneF, n, []⟩ ∧ (a = b ↔ a.drop i = b.drop i)) a.length ?_ ?_
  · simp only [go_sem]
    exact ⟨_, rfl⟩
  · rintro i hi s ⟨n, rfl, hall⟩
    unfold ref53_SameInts_l0
    simp only [go_sem]
    constructor
    · intro h3
      have h' : i < a.length := by simpa using h3
      have h'' : i < b.length := by omega
      have hx := List.getElem?_eq_getElem h'
      have hd := List.drop_eq_getElem_cons h'
      have hy := List.getElem?_eq_getElem h''
      have hd' := List.drop_eq_getElem_cons h''
      generalize a[i] = x at hx hd
      generalize b[i] = y at hy hd'
      have hw : IntKind.i64.wrap ((i : Int) + 1) = ((i + 1 : Nat) : Int) := wrap_in (by omega)
      rw [hd, hd'] at hall
      simp +contextual -implicitDefEqProofs (maxSteps := 1000000) only [go_sem, hx, hy, hw]
      refine ⟨?_, ?_⟩
      rotate_left
      · intro h4
        refine RetNow.gives (.inr ?_)
        have h4 : x ≠ y := by simpa using h4
        have : a ≠ b := fun e => h4 (by have := hall.1 e; simp at this; exact this.1)
        simp [this]
      · intro h4
        have h4 : x = y := by simpa using h4
        refine ⟨h', _, rfl, ?_⟩
        rw [hall, h4]; simp
    · intro h3
      have hn : a.length ≤ i := by simpa using h3
      refine RetNow.gives (.inr ?_)
      rw [List.drop_eq_nil_of_le hn, List.drop_eq_nil_of_le (by omega)] at hall
      have : a = b := hall.2 rfl
      simp [this]

theorem SameSteps_ok (h : In C) (a b : List (Int × Int × Bool)) (ha : a.length ≤ 1048576) : CallV C (.dat (.fn ref53_SameSteps_id [] [])) [.dat (.list (a.map encStep) false), .dat (.list (b.map encStep) false)] noneF (Gives (.dat (.bool (decide (a = b))))) := by
  refine h.call ref53_SameSteps_ok (Nat.le_of_ble_eq_true rfl) fun ℓ hS _ => ?_
  unfold ref53_SameSteps
  simp +contextual -implicitDefEqProofs only [go_sem]
  refine ⟨?_, ?_⟩
  rotate_left
  · intro h1
    refine RetNow.gives (.inr ?_)
    have h1 : a.length ≠ b.length := by simp at h1; omega
    have : a ≠ b := fun e => h1 (by rw [e])
    simp [this]
  intro h1
  have h1 : a.length = b.length := by simp at h1; omega
  refine LoopW.up (some ([0, 1, 5], [])) (fun i s => ∃ n, s = ⟨[(0, .dat (.list (a.map encStep) false)), (1, .dat (.list (b.map encStep) false)), (5, .dat (I i))], [], noneF, n, []⟩ ∧ (a = b ↔ a.drop i = b.drop i)) a.length ?_ ?_
  · simp only [go_sem]
    exact ⟨_, rfl⟩
  · rintro i hi s ⟨n, rfl, hall⟩
    unfold ref53_SameSteps_l0
    simp only [go_sem]
    constructor
    · intro h3
      have h' : i < a.length := by simpa using h3
      have h'' : i < b.length := by omega
      have hx := List.getElem?_eq_getElem h'
      have hd := List.drop_eq_getElem_cons h'
      have hy := List.getElem?_eq_getElem h''
      have hd' := List.drop_eq_getElem_cons h''
      generalize a[i] = x at hx hd
      generalize b[i] = y at hy hd'
      obtain ⟨x1, x2, x3⟩ := x
      obtain ⟨y1, y2, y3⟩ := y
      have hw : IntKind.i64.wrap ((i : Int) + 1) = ((i + 1 : Nat) : Int) := wrap_in (by omega)
      rw [hd, hd'] at hall
      simp +contextual -implicitDefEqProofs (maxSteps := 1000000) only [go_sem, hx, hy, hw, encStep]
      have hxy : (decide (x1 = y1) && (decide (x2 = y2) && x3 == y3)) = decide ((x1, x2, x3) = (y1, y2, y3)) := by
        rw [Bool.eq_iff_iff]; simp
      rw [hxy]
      refine ⟨?_, ?_⟩
      rotate_left
      · intro h4
        refine RetNow.gives (.inr ?_)
        have h4 : (x1, x2, x3) ≠ (y1, y2, y3) := of_decide_eq_false h4
        have : a ≠ b := fun e => h4 (List.cons.inj (hall.1 e)).1
        simp [this]
      · intro h4
        have h4 : (x1, x2, x3) = (y1, y2, y3) := of_decide_eq_true h4
        refine ⟨h', _, rfl, ?_⟩
        rw [hall, h4]; simp
    · intro h3
      have hn : a.length ≤ i := by simpa using h3
      refine RetNow.gives (.inr ?_)
      rw [List.drop_eq_nil_of_le hn, List.drop_eq_nil_of_le (by omega)] at hall
      have : a = b := hall.2 rfl
      simp [this]
end Go.Abs.P

/- Chapter 53: the examples. No conditions. -/
namespace Go.Abs.P
open Go.Proofs
set_option maxRecDepth 10000
variable {C : Ctx}

def L0 : List Budget := [⟨3, 0, 0, 1, 10, 2, 100, false⟩, ⟨4, 0, 50, 1, 10, 1, 100, false⟩, ⟨9, 0, 0, 2, 7, 0, 0, true⟩]
def U0 : List Use := [⟨1, 1, 60, 12, 0⟩, ⟨2, 1, 30, 15, 0⟩, ⟨3, 2, 5, 15, 0⟩, ⟨5, 1, 1, 21, 30⟩]
theorem s1 : spentR [] [] 0 0 0 = (0, 0, 1) := by decide +kernel
theorem s2 : examine L0 U0 = 0 := by decide +kernel
theorem s3 : spentR L0 U0 3 19 0 = (2, 90, 0) := by decide +kernel
theorem s4 : spentR L0 U0 3 14 0 = (1, 60, 0) := by decide +kernel
theorem s5 : spentR L0 U0 3 25 29 = (0, 0, 0) := by decide +kernel
theorem s6 : spentR L0 U0 3 25 30 = (1, 1, 0) := by decide +kernel
theorem s7 : spentR L0 U0 9 0 0 = (0, 0, 1) := by decide +kernel
theorem o0 : overB [] [] 0 = [] := by decide +kernel
theorem o1 : overB L0 U0 49 = [] := by decide +kernel
theorem o2 : overB L0 U0 50 = [4] := by decide +kernel
theorem sort0 : sortI [] = [] := by simp [sortI]
theorem sort1 : sortI [4] = [4] := by simp [sortI]
theorem v0 : overR [] [] 0 = ([], 0) := by
  have e : examine [] [] = 0 := by decide +kernel
  unfold overR; rw [if_neg (by simp [e]), if_pos (by decide +kernel), o0, sort0]
theorem v1 : overR L0 U0 49 = ([], 0) := by
  unfold overR; rw [if_neg (by simp [s2]), if_pos (by decide +kernel), o1, sort0]
theorem v2 : overR L0 U0 50 = ([4], 0) := by
  unfold overR; rw [if_neg (by simp [s2]), if_pos (by decide +kernel), o2, sort1]
theorem v3 : overR [] [⟨0, 16, 0, 0, 0⟩] 0 = ([], 180) := by
  have e : examine [] [⟨0, 16, 0, 0, 0⟩] = 180 := by decide +kernel
  unfold overR; rw [if_pos (by simp [e]), e]
theorem f3 : findB L0 3 = some ⟨3, 0, 0, 1, 10, 2, 100, false⟩ := by decide +kernel
theorem f4 : findB L0 4 = some ⟨4, 0, 50, 1, 10, 1, 100, false⟩ := by decide +kernel
theorem h1' : historyR L0 [] 3 0 0 = ([], 0) := by
  have e : examine L0 [] = 0 := by decide +kernel
  have t : timesOf ⟨⟨3, 0, 0, 1, 10, 2, 100, false⟩, [], 0⟩ 0 = [] := by decide +kernel
  unfold historyR; rw [if_neg (by simp [e]), f3]; simp only [t, List.map_nil, sort0]
  rw [if_pos (by decide +kernel)]; rfl
theorem h2' : historyR L0 U0 4 1 0 = ([(12, 1, true), (15, 2, false)], 0) := by
  have t : timesOf ⟨⟨4, 0, 50, 1, 10, 1, 100, false⟩, U0, 0⟩ 1 = [(12, (1, 60)), (15, (1, 30))] := by decide +kernel
  have t2 : sortI [12, 15] = [12, 15] := List.mergeSort_of_pairwise (by decide)
  unfold historyR; rw [if_neg (by simp [s2]), f4]; simp only [t, List.map_cons, List.map_nil, t2]
  rw [if_pos (by decide +kernel)]; decide +kernel
theorem h3' : historyR L0 U0 3 109951162778 0 = ([], 1) := by
  unfold historyR; rw [if_neg (by simp [s2]), f3]; simp only []
  rw [if_neg (by decide +kernel)]
end Go.Abs.P

/- Chapter 53: the reference: put, History. No conditions. -/
namespace Go.Abs.P
open Go.Proofs
set_option maxRecDepth 10000
variable {C : Ctx}

/-- Where a time belongs. -/
def putAt (t : Int) (l : List Int) : Nat := (l.takeWhile fun x => decide (x < t)).length
def put53 (l : List Int) (t : Int) : List Int := if l[putAt t l]? = some t then l else l.take (putAt t l) ++ [t] ++ l.drop (putAt t l)
theorem putAt_le (t : Int) : ∀ l : List Int, putAt t l ≤ l.length
  | [] => by simp [putAt]
  | x :: l => by
    have := putAt_le t l
    unfold putAt at *
    rw [List.takeWhile_cons]
    split
    · simp; omega
    · simp
theorem putAt_drop (t : Int) : ∀ (i : Nat) (l : List Int), (∀ x ∈ l.take i, x < t) → i ≤ l.length → putAt t l = i + putAt t (l.drop i)
  | 0, l, _, _ => by simp
  | i + 1, [], _, h => by simp at h
  | i + 1, x :: l, h, h' => by
    have hx : x < t := h x (by simp)
    have := putAt_drop t i l (fun y hy => h y (by simp [hy])) (by simpa using h')
    unfold putAt at *
    rw [List.takeWhile_cons, if_pos (by simpa using hx)]
    simp only [List.length_cons, List.drop_succ_cons, this]
    omega

theorem stride_I (l : List Int) : strideOk 1 (l.map I) = True := by
  simp [strideOk, I, Dat.cells]
theorem put_ok (h : In C) (l : List Int) (hl : l.length ≤ 4096) (t : Int) : CallV C (.dat (.fn ref53_put_id [] [])) [.dat (.list (l.map I) false), .dat (I t)] noneF (Gives (.dat (.list ((put53 l t).map I) false))) := by
  refine h.call ref53_put_ok (Nat.le_of_ble_eq_true rfl) fun ℓ hS _ => ?_
  unfold ref53_put
  simp +contextual -implicitDefEqProofs only [go_sem]
  refine LoopW.up (some ([0, 1, 5], [])) (fun i s => ∃ n, s = ⟨[(0, .dat (.list (l.map I) false)), (1, .dat (I t)), (5, .dat (I i))], [], noneF, n, []⟩ ∧ ∀ x ∈ l.take i, x < t) l.length ?_ ?_
  · simp only [go_sem]
    exact ⟨_, rfl, by simp⟩
  · rintro i hi s ⟨n, rfl, hall⟩
    unfold ref53_put_l0
    simp only [go_sem]
    have hd0 := putAt_drop t i l hall hi
    have hw : IntKind.i64.wrap ((i : Int) + 1) = ((i + 1 : Nat) : Int) := wrap_in (by omega)
    have htl : (l.take i).length = i := by simp; omega
    have r1 : (0 ≤ i ∧ i ≤ l.length) = True := by simp; omega
    have r2 : (i ≤ l.length ∧ l.length ≤ l.length) = True := by simp; omega
    have m1 : i ≤ mostLen := by unfold mostLen; omega
    have m2 : i + 1 ≤ mostLen := by unfold mostLen; omega
    have m3 : i + 1 + (l.length - i) ≤ mostLen := by unfold mostLen; omega
    have t1 : (List.map I l).take i = (l.take i).map I := by rw [List.map_take]
    have t2 : (List.map I l).drop i = (l.drop i).map I := by rw [List.map_drop]
    have t3 : (List.map I l).take l.length = List.map I l := List.take_of_length_le (by simp)
    have t4 : ∀ z : List Int, strideOk 1 (List.map I z) = True := stride_I
    have r3 : (i ≤ l.length) = True := by simp; omega
    by_cases h' : i < l.length
    · have hx := List.getElem?_eq_getElem h'
      have hd := List.drop_eq_getElem_cons h'
      have ht : l.take (i + 1) = l.take i ++ [l[i]] := by rw [List.take_add_one, List.getElem?_eq_getElem h']; simp
      generalize l[i] = x at hx hd ht
      have hlt : decide ((i : Int) < (l.length : Int)) = true := decide_eq_true (by omega)
      cases e1 : decide (x < t)
      · have hp : putAt t l = i := by rw [hd0, hd]; simp [putAt, List.takeWhile_cons, e1]
        cases e2 : decide (x = t)
        · simp +contextual -implicitDefEqProofs (maxSteps := 1000000) only [go_sem, hx, hw, hlt, e1, e2, r1, r2, r3, m1, m2, m3, t1, t2, t3, t4, htl, List.length_append, List.length_cons, List.length_nil, List.length_drop, List.length_map, if_true, or_true, and_true, true_and, Nat.le_refl, Nat.zero_le]
          have e2 : x ≠ t := by simpa using e2
          have hput : put53 l t = l.take i ++ [t] ++ l.drop i := by unfold put53; rw [hp, hx, if_neg (by simpa using e2)]
          refine RetNow.gives (.inl ?_)
          rw [hput]; simp [D.out, D.out1, I]
        · simp +contextual -implicitDefEqProofs (maxSteps := 1000000) only [go_sem, hx, hw, hlt, e1, e2]
          refine RetNow.gives (.inr ?_)
          have e2 : x = t := by simpa using e2
          have : put53 l t = l := by unfold put53; rw [hp, hx, e2, if_pos rfl]
          rw [this]
      · simp +contextual -implicitDefEqProofs (maxSteps := 1000000) only [go_sem, hx, hw, hlt, e1]
        refine ⟨h', _, rfl, fun z hz => ?_⟩
        rw [ht] at hz
        rcases List.mem_append.1 hz with hz | hz
        · exact hall z hz
        · simp only [List.mem_singleton] at hz; rw [hz]; simpa using e1
    · have hlt : decide ((i : Int) < (l.length : Int)) = false := decide_eq_false (by omega)
      have hp : putAt t l = i := by rw [hd0, List.drop_eq_nil_of_le (by omega)]; simp [putAt]
      simp +contextual -implicitDefEqProofs (maxSteps := 1000000) only [go_sem, hw, hlt, r1, r2, r3, m1, m2, m3, t1, t2, t3, t4, htl, List.length_append, List.length_cons, List.length_nil, List.length_drop, List.length_map, if_true, or_true, and_true, true_and, Nat.le_refl, Nat.zero_le]
      have hput : put53 l t = l.take i ++ [t] ++ l.drop i := by unfold put53; rw [hp, List.getElem?_eq_none (by omega), if_neg (by simp)]
      refine RetNow.gives (.inl ?_)
      rw [hput]; simp [D.out, D.out1, I]

theorem CallV.weak1 {fv d2 : D} {xs : List Dat} {f : Bool} {S : OwnF} {Q : Res → OwnF → Prop} (h : CallV C fv [.dat (.list xs false), d2] S Q) : CallV C fv [.dat (.list xs f), d2] S Q := by
  intro M g w fn vs h1 h2 h3 h4
  refine h M g w fn vs h1 h2 h3 ?_
  match vs, h4 with
  | [v1, v2], h4 =>
    simp only [VDl, VD, V] at h4 ⊢
    obtain ⟨⟨base, len, cap, a1, a2, a3, _, a5⟩, h5⟩ := h4
    exact ⟨⟨base, len, cap, a1, a2, a3, fun e => by simp at e, a5⟩, h5⟩
  | [], h4 => simp [VDl] at h4
  | [_], h4 => simp [VDl] at h4
  | _ :: _ :: _ :: _, h4 => simp [VDl] at h4
def times53 (b : Budget) (u : List Use) (known period : Int) : List Int := (u.filter fun x => of53 b x known && decide (IntKind.i64.wrap (x.at_.tdiv b.period) = period)).foldl (fun l x => put53 l x.at_) []
def step53 (b : Budget) (u : List Use) (known t : Int) : Int × Int × Bool := (t, (spentOf ⟨b, u, known⟩ t).1, fine b (spentOf ⟨b, u, known⟩ t).1 (spentOf ⟨b, u, known⟩ t).2)
def history53R (l : List Budget) (u : List Use) (no period known : Int) : List (Int × Int × Bool) × Int :=
  if examine l u ≠ 0 then ([], examine l u) else
  match findB l no with
  | none => ([], 1)
  | some b => if 0 ≤ period ∧ period ≤ (1099511627775 : Int).tdiv b.period ∧ isTime known = true then ((times53 b u known period).map (step53 b u known), 0) else ([], 1)
theorem put53_len (l : List Int) (t : Int) : (put53 l t).length ≤ l.length + 1 := by
  have := putAt_le t l
  unfold put53
  split
  · omega
  · simp; omega

set_option maxHeartbeats 4000000 in
theorem History53_ok (h : In C) (l : List Budget) (u : List Use) (no period known : Int) : CallV C (.dat (.fn ref53_History_id [] [])) [.dat (.list (l.map Budget.enc) false), .dat (.list (u.map Use.enc) false), .dat (I no), .dat (I period), .dat (I known)] noneF
    (Gives (.dat (encR ((history53R l u no period known).1.map encStep) (history53R l u no period known).2))) := by
  refine h.call ref53_History_ok (Nat.le_of_ble_eq_true rfl) fun ℓ hS _ => ?_
  unfold ref53_History
  simp +contextual -implicitDefEqProofs only [go_sem]
  refine CallX.plain (Error53_ok h l u) ?_
  simp +contextual -implicitDefEqProofs only [go_sem]
  refine ⟨?_, ?_⟩
  rotate_left
  · intro h1
    have h1 : examine l u ≠ 0 := by simpa using h1
    refine RetNow.gives (.inl ?_)
    simp [history53R, h1, I, encR, D.out, Dat.wk, Dat.wk1]
  intro h1
  have h1 : examine l u = 0 := by simpa using h1
  obtain ⟨hc, hu, huf⟩ := examine_parts h1
  refine CallX.plain (Find53_ok h l (Nat.le_trans (checkB_len hc) (by omega)) no) ?_
  have hsp := find_spec no l 0
  cases hf : findB l no with
  | none =>
    rw [hf] at hsp
    simp only at hsp
    have hneg : decide (findFrom no 0 l < 0) = true := by rw [hsp]; decide
    simp +contextual -implicitDefEqProofs only [go_sem, hneg]
    refine RetNow.gives (.inl ?_)
    simp [history53R, h1, hf, I, encR, D.out, Dat.wk, Dat.wk1]
  | some b =>
    rw [hf] at hsp
    obtain ⟨k, hk1, hk2⟩ := hsp
    rw [Nat.zero_add] at hk1
    have hb := right_parts (checkB_right hc b (findB_mem hf))
    have hp : b.period ≠ 0 := by omega
    have hneg : decide (((k : Nat) : Int) < 0) = false := decide_eq_false (by omega)
    have hq : IntKind.i64.wrap (Int.tdiv 1099511627775 b.period) = Int.tdiv 1099511627775 b.period := by
      have h1 : 0 ≤ Int.tdiv 1099511627775 b.period := Int.tdiv_nonneg (by omega) (by omega)
      have h2 : Int.tdiv 1099511627775 b.period ≤ 1099511627775 := Int.tdiv_le_self _ (by omega)
      exact wrap_in (by omega)
    rw [hk1]
    simp +contextual -implicitDefEqProofs only [go_sem, hneg, hk2, hp, hq]
    refine gcall_f ?_ (fun e => ?_) ?_; rotate_left
    · simp only [go_sem, e]; exact Time53_ok h known
    simp +contextual -implicitDefEqProofs only [go_sem]
    refine ⟨?_, ?_⟩
    · intro h2
      have hn : ¬ (0 ≤ period ∧ period ≤ (1099511627775 : Int).tdiv b.period ∧ isTime known = true) := by
        rintro ⟨h3, h4, h5⟩
        rw [h5] at h2
        simp at h2
        omega
      refine RetNow.gives (.inl ?_)
      simp only [history53R, h1, hf]
      rw [if_neg hn]; rfl
    intro h2
    have hy : 0 ≤ period ∧ period ≤ (1099511627775 : Int).tdiv b.period ∧ isTime known = true := by
      cases e : isTime known with
      | false => rw [e] at h2; simp at h2
      | true => rw [e] at h2; simp at h2; simp; omega
    have hR : history53R l u no period known = ((times53 b u known period).map (step53 b u known), 0) := by
      simp only [history53R, h1, hf]; rw [if_neg (by simp), if_pos hy]
    rw [hR]
    refine LoopW.up (some ([0, 1, 3, 4, 13, 14, 15], [])) (fun i s => ∃ n f ts, s = ⟨[(0, .dat (.list (l.map Budget.enc) false)), (1, .dat (.list (u.map Use.enc) false)), (3, .dat (I period)), (4, .dat (I known)), (13, .dat (I k)), (14, .dat (.list (ts.map I) f)), (15, .dat (I i))], [], noneF, n, []⟩ ∧ ts.length ≤ i ∧ times53 b u known period = ((u.drop i).filter fun x => of53 b x known && decide (IntKind.i64.wrap (x.at_.tdiv b.period) = period)).foldl (fun l x => put53 l x.at_) ts) u.length ?_ ?_
    · simp only [go_sem]
      exact ⟨_, _, [], rfl, Nat.le_refl _, rfl⟩
    · rintro i hi s ⟨n, f, ts, rfl, hlen, hall⟩
      unfold ref53_History_l0
      simp only [go_sem]
      constructor
      · intro h3
        have h' : i < u.length := by simpa using h3
        have hx := List.getElem?_eq_getElem h'
        have hd := List.drop_eq_getElem_cons h'
        generalize u[i] = x at hx hd
        have hw : IntKind.i64.wrap ((i : Int) + 1) = ((i + 1 : Nat) : Int) := wrap_in (by omega)
        rw [hd, List.filter_cons] at hall
        simp +contextual -implicitDefEqProofs (maxSteps := 1000000) only [go_sem, hx, hw, hk2]
        refine CallX.plain (of53_ok h b x known) ?_
        cases e1 : of53 b x known
        · simp +contextual -implicitDefEqProofs (maxSteps := 1000000) only [go_sem, hx, hw, hk2, hp, e1]
          refine ⟨h', _, _, _, rfl, by omega, ?_⟩
          rw [hall, e1]; rfl
        simp +contextual -implicitDefEqProofs (maxSteps := 1000000) only [go_sem, hx, hw, hk2, hp, e1]
        constructor
        · intro h4
          refine CallX.plain (CallV.weak1 (put_ok h ts (by omega) x.at_)) ?_
          simp +contextual -implicitDefEqProofs (maxSteps := 1000000) only [go_sem, hw]
          have := put53_len ts x.at_
          refine ⟨h', _, _, _, rfl, by omega, ?_⟩
          rw [hall, e1, h4]; rfl
        · intro h4
          refine ⟨h', _, _, _, rfl, by omega, ?_⟩
          rw [hall, e1, h4]; rfl
      · intro h3
        rw [List.drop_eq_nil_of_le (by simpa using h3)] at hall
        have hall : times53 b u known period = ts := hall
        rw [hall]
        refine LoopW.sh (some ([0, 1, 4, 13, 14, 16, 17], [130])) (fun j s => ∃ n' k8 xs, s = ⟨[(0, .dat (.list (l.map Budget.enc) false)), (1, .dat (.list (u.map Use.enc) false)), (4, .dat (I known)), (13, .dat (I k)), (14, .dat (.list (ts.map I) f)), (16, .lst (xs.map encStep) (.v ℓ 130 k8)), (17, .dat (I j))], [(.v ℓ 130 k8, .tok 3)], noneF, n', []⟩ ∧ xs.length ≤ j ∧ ts.map (step53 b u known) = xs ++ (ts.drop j).map (step53 b u known)) ts.length ?_ ?_
        · refine ⟨_, (Sh.tok C ℓ _ 16 130 3 (by simp only [go_sem])).trans (Sh.keep C ℓ _ (some ([0, 1, 4, 13, 14, 16, 17], [130]))), ?_⟩
          simp only [go_sem]
          exact ⟨_, _, [], rfl, Nat.le_refl _, rfl⟩
        · rintro j hj s ⟨n', k8, xs, rfl, hlen2, hst⟩
          unfold ref53_History_l1
          simp only [go_sem]
          constructor
          · intro h5
            have h6 : j < ts.length := by simpa using h5
            have hy := List.getElem?_eq_getElem h6
            have hd := List.drop_eq_getElem_cons h6
            generalize ts[j] = t at hy hd
            have hw : IntKind.i64.wrap ((j : Int) + 1) = ((j + 1 : Nat) : Int) := wrap_in (by omega)
            have hm' : xs.length + 1 ≤ mostLen := by unfold mostLen; omega
            rw [hd, List.map_cons] at hst
            simp +contextual -implicitDefEqProofs (maxSteps := 1000000) only [go_sem, hy, hw, hm', hk2]
            refine CallX.plain (spent53_ok h b u hu (by omega) hp t known) ?_
            simp +contextual -implicitDefEqProofs (maxSteps := 1000000) only [go_sem, hy, hw, hm', hk2]
            refine (tooMuch_ok h b u hu (by omega) hp t known).mono fun r S' e => ?_
            obtain rfl : r = .ret _ := e
            simp +contextual -implicitDefEqProofs (maxSteps := 1000000) only [go_sem, hy, hw, hm', hk2, Bool.not_not]
            exact ⟨h6, _, Sh.refl C ℓ _, n' + 1, n', xs ++ [step53 b u known t], by rw [List.map_append]; rfl, by simp; omega, by rw [hst]; simp⟩
          · intro h5
            rw [List.drop_eq_nil_of_le (by simpa using h5)] at hst
            refine RetNow.gives (.inl ?_)
            rw [hst]; simp [D.out, D.out1, encR, I]; rfl
end Go.Abs.P

/- Chapter 53: the examples, run. No conditions. -/
namespace Go.Abs.P
open Go.Proofs
set_option maxRecDepth 10000
variable {C : Ctx}

/-- Arguments of which less need be known. -/
theorem CallV.argsLe {fv : D} {args args' : List D} {S : OwnF} {Q : Res → OwnF → Prop} (h : CallV C fv args S Q) (hl : ∀ M vs, VDl M args' vs → VDl M args vs) : CallV C fv args' S Q :=
  fun M g w fn vs h1 h2 h3 h4 => h M g w fn vs h1 h2 h3 (hl M vs h4)
theorem args_nil : ∀ M vs, VDl M [] vs → VDl M [] vs := fun _ _ h => h
theorem args_cons {d d' : D} {l l' : List D} (h1 : ∀ M v, VD M d' v → VD M d v) (h2 : ∀ M vs, VDl M l' vs → VDl M l vs) : ∀ M vs, VDl M (d' :: l') vs → VDl M (d :: l) vs := by
  intro M vs h
  match vs, h with
  | [], h => simp [VDl] at h
  | v :: vs, h => simp only [VDl] at h ⊢; exact ⟨h1 M v h.1, h2 M vs h.2⟩
theorem arg_list (xs : List Dat) (f : Bool) : ∀ M v, VD M (.dat (.list xs f)) v → VD M (.dat (.list xs false)) v := by
  intro M v h
  simp only [VD, V] at h ⊢
  obtain ⟨base, len, cap, a1, a2, a3, _, a5⟩ := h
  exact ⟨base, len, cap, a1, a2, a3, fun e => by simp at e, a5⟩
theorem arg_same (d : D) : ∀ M v, VD M d v → VD M d v := fun _ _ h => h

set_option maxHeartbeats 4000000 in
theorem sane_ok (h : In C) : CallV C (.dat (.fn law53_sane_id [] [])) [] noneF (Gives (.dat (.bool true))) := by
  have c1 := Spent_ok h [] [] 0 0 0
  have c2 := Over_ok h [] [] 0
  have c3 := History_ok h L0 [] 3 0 0
  have c4 := Over_ok h [] [⟨0, 16, 0, 0, 0⟩] 0
  have c5 := Spent_ok h L0 U0 3 19 0
  have c6 := Spent_ok h L0 U0 3 14 0
  have c7 := Spent_ok h L0 U0 3 25 29
  have c8 := Spent_ok h L0 U0 3 25 30
  have c9 := Over_ok h L0 U0 49
  have c10 := Over_ok h L0 U0 50
  have c11 := History_ok h L0 U0 4 1 0
  have c12 := Spent_ok h L0 U0 9 0 0
  have c13 := History_ok h L0 U0 3 109951162778 0
  rw [s1] at c1; rw [v0] at c2; rw [h1'] at c3; rw [v3] at c4; rw [s3] at c5; rw [s4] at c6; rw [s5] at c7; rw [s6] at c8; rw [v1] at c9; rw [v2] at c10; rw [h2'] at c11; rw [s7] at c12; rw [h3'] at c13
  refine h.call law53_sane_ok (Nat.le_of_ble_eq_true rfl) fun ℓ hS _ => ?_
  unfold law53_sane
  simp +contextual -implicitDefEqProofs (maxSteps := 1000000) only [go_sem]
  refine CallX.plain (CallV.argsLe c1 (args_cons (arg_list _ _) (args_cons (arg_list _ _) (args_cons (arg_same _) (args_cons (arg_same _) (args_cons (arg_same _) args_nil)))))) ?_
  simp +contextual -implicitDefEqProofs (maxSteps := 1000000) only [go_sem, encR, List.map_nil, List.map_cons]
  refine CallX.plain (CallV.argsLe c2 (args_cons (arg_list _ _) (args_cons (arg_list _ _) (args_cons (arg_same _) args_nil)))) ?_
  simp +contextual -implicitDefEqProofs (maxSteps := 1000000) only [go_sem, encR, List.map_nil, List.map_cons]
  refine CallX.plain (CallV.argsLe c3 (args_cons (arg_list _ _) (args_cons (arg_list _ _) (args_cons (arg_same _) (args_cons (arg_same _) (args_cons (arg_same _) args_nil)))))) ?_
  simp +contextual -implicitDefEqProofs (maxSteps := 1000000) only [go_sem, encR, List.map_nil, List.map_cons]
  refine CallX.plain (CallV.argsLe c4 (args_cons (arg_list _ _) (args_cons (arg_list _ _) (args_cons (arg_same _) args_nil)))) ?_
  simp +contextual -implicitDefEqProofs (maxSteps := 1000000) only [go_sem, encR, List.map_nil, List.map_cons]
  refine CallX.plain (CallV.argsLe c5 (args_cons (arg_list _ _) (args_cons (arg_list _ _) (args_cons (arg_same _) (args_cons (arg_same _) (args_cons (arg_same _) args_nil)))))) ?_
  simp +contextual -implicitDefEqProofs (maxSteps := 1000000) only [go_sem, encR, List.map_nil, List.map_cons]
  refine CallX.plain (CallV.argsLe c6 (args_cons (arg_list _ _) (args_cons (arg_list _ _) (args_cons (arg_same _) (args_cons (arg_same _) (args_cons (arg_same _) args_nil)))))) ?_
  simp +contextual -implicitDefEqProofs (maxSteps := 1000000) only [go_sem, encR, List.map_nil, List.map_cons]
  refine CallX.plain (CallV.argsLe c7 (args_cons (arg_list _ _) (args_cons (arg_list _ _) (args_cons (arg_same _) (args_cons (arg_same _) (args_cons (arg_same _) args_nil)))))) ?_
  simp +contextual -implicitDefEqProofs (maxSteps := 1000000) only [go_sem, encR, List.map_nil, List.map_cons]
  refine CallX.plain (CallV.argsLe c8 (args_cons (arg_list _ _) (args_cons (arg_list _ _) (args_cons (arg_same _) (args_cons (arg_same _) (args_cons (arg_same _) args_nil)))))) ?_
  simp +contextual -implicitDefEqProofs (maxSteps := 1000000) only [go_sem, encR, List.map_nil, List.map_cons]
  refine CallX.plain (CallV.argsLe c9 (args_cons (arg_list _ _) (args_cons (arg_list _ _) (args_cons (arg_same _) args_nil)))) ?_
  simp +contextual -implicitDefEqProofs (maxSteps := 1000000) only [go_sem, encR, List.map_nil, List.map_cons]
  refine CallX.plain (CallV.argsLe c10 (args_cons (arg_list _ _) (args_cons (arg_list _ _) (args_cons (arg_same _) args_nil)))) ?_
  simp +contextual -implicitDefEqProofs (maxSteps := 1000000) only [go_sem, encR, List.map_nil, List.map_cons]
  refine CallX.plain (CallV.argsLe c11 (args_cons (arg_list _ _) (args_cons (arg_list _ _) (args_cons (arg_same _) (args_cons (arg_same _) (args_cons (arg_same _) args_nil)))))) ?_
  simp +contextual -implicitDefEqProofs (maxSteps := 1000000) only [go_sem, encR, List.map_nil, List.map_cons]
  refine CallX.plain (CallV.argsLe c12 (args_cons (arg_list _ _) (args_cons (arg_list _ _) (args_cons (arg_same _) (args_cons (arg_same _) (args_cons (arg_same _) args_nil)))))) ?_
  simp +contextual -implicitDefEqProofs (maxSteps := 1000000) only [go_sem, encR, List.map_nil, List.map_cons]
  refine CallX.plain (CallV.argsLe c13 (args_cons (arg_list _ _) (args_cons (arg_list _ _) (args_cons (arg_same _) (args_cons (arg_same _) (args_cons (arg_same _) args_nil)))))) ?_
  simp +contextual -implicitDefEqProofs (maxSteps := 1000000) only [go_sem, encR, List.map_nil, List.map_cons]
  constructor
  · intro e; exact absurd e (by decide)
  intro _
  have i1 := SameInts_ok h [4] [4] (by decide)
  have i2 := SameSteps_ok h [(12, 1, true), (15, 2, false)] [(12, 1, true), (15, 2, false)] (by decide)
  rw [decide_eq_true rfl] at i1 i2
  refine CallX.plain (CallV.argsLe i1 (args_cons (arg_list _ _) (args_cons (arg_list _ _) args_nil))) ?_
  simp +contextual -implicitDefEqProofs (maxSteps := 1000000) only [go_sem]
  refine CallX.plain (CallV.argsLe i2 (args_cons (arg_list _ _) (args_cons (arg_list _ _) args_nil))) ?_
  simp +contextual -implicitDefEqProofs (maxSteps := 1000000) only [go_sem]
  exact RetNow.gives (.inr rfl)
end Go.Abs.P

/- Chapter 53: the first two statements' functions, run; what is left is the plain law. No conditions but what stands in each. -/
namespace Go.Abs.P
open Go.Proofs
set_option maxRecDepth 10000
variable {C : Ctx}

set_option maxHeartbeats 4000000 in
theorem AccountsSpec_wp (h : In C) (l : List Budget) (u : List Use) (no at_ known : Int) (hlaw : overR l u known = over53R l u known) (hlen : (over53R l u known).1.length ≤ 1048576) : ∀ ℓ, wp C ℓ law53_AccountsSpec.body ⟨argSlots 0 [.dat (.list (l.map Budget.enc) false), .dat (.list (u.map Use.enc) false), .dat (I no), .dat (I at_), .dat (I known)], [], noneF, 0, []⟩ (fnK law53_AccountsSpec.res (Gives (.dat (.bool true)))) := by
  intro ℓ
  unfold law53_AccountsSpec
  simp +contextual -implicitDefEqProofs (maxSteps := 1000000) only [go_sem]
  refine CallX.plain (sane_ok h) ?_
  simp +contextual -implicitDefEqProofs (maxSteps := 1000000) only [go_sem]
  refine CallX.plain (Few_ok h l u) ?_
  simp +contextual -implicitDefEqProofs (maxSteps := 1000000) only [go_sem]
  refine ⟨?_, ?_⟩
  rotate_left
  · intro _
    exact RetNow.gives (.inr rfl)
  intro _
  refine CallX.plain (Spent_ok h l u no at_ known) ?_
  simp +contextual -implicitDefEqProofs (maxSteps := 1000000) only [go_sem]
  refine CallX.plain (Spent53_ok h l u no at_ known) ?_
  simp +contextual -implicitDefEqProofs (maxSteps := 1000000) only [go_sem]
  have ho := Over_ok h l u known
  rw [hlaw] at ho
  refine CallX.plain ho ?_
  simp +contextual -implicitDefEqProofs (maxSteps := 1000000) only [go_sem, encR]
  refine CallX.plain (Over53_ok h l u known) ?_
  simp +contextual -implicitDefEqProofs (maxSteps := 1000000) only [go_sem, encR]
  have hs := SameInts_ok h (over53R l u known).1 (over53R l u known).1 hlen
  rw [decide_eq_true rfl] at hs
  refine CallX.plain hs ?_
  simp +contextual -implicitDefEqProofs (maxSteps := 1000000) only [go_sem]
  exact RetNow.gives (.inr rfl)

set_option maxHeartbeats 4000000 in
theorem AccountsHistorySpec_wp (h : In C) (l : List Budget) (u : List Use) (no period known : Int) (hlaw : historyR l u no period known = history53R l u no period known) (hlen : (history53R l u no period known).1.length ≤ 1048576) : ∀ ℓ, wp C ℓ law53_AccountsHistorySpec.body ⟨argSlots 0 [.dat (.list (l.map Budget.enc) false), .dat (.list (u.map Use.enc) false), .dat (I no), .dat (I period), .dat (I known)], [], noneF, 0, []⟩ (fnK law53_AccountsHistorySpec.res (Gives (.dat (.bool true)))) := by
  intro ℓ
  unfold law53_AccountsHistorySpec
  simp +contextual -implicitDefEqProofs (maxSteps := 1000000) only [go_sem]
  refine CallX.plain (sane_ok h) ?_
  simp +contextual -implicitDefEqProofs (maxSteps := 1000000) only [go_sem]
  refine CallX.plain (Few_ok h l u) ?_
  simp +contextual -implicitDefEqProofs (maxSteps := 1000000) only [go_sem]
  refine ⟨?_, ?_⟩
  rotate_left
  · intro _
    exact RetNow.gives (.inr rfl)
  intro _
  have ho := History_ok h l u no period known
  rw [hlaw] at ho
  refine CallX.plain ho ?_
  simp +contextual -implicitDefEqProofs (maxSteps := 1000000) only [go_sem, encR]
  refine CallX.plain (History53_ok h l u no period known) ?_
  simp +contextual -implicitDefEqProofs (maxSteps := 1000000) only [go_sem, encR]
  have hs := SameSteps_ok h (history53R l u no period known).1 (history53R l u no period known).1 hlen
  rw [decide_eq_true rfl] at hs
  refine CallX.plain hs ?_
  simp +contextual -implicitDefEqProofs (maxSteps := 1000000) only [go_sem]
  exact RetNow.gives (.inr rfl)
end Go.Abs.P

/- Chapter 53, plain: which budgets stand. No program. No conditions. -/
namespace Go.Abs.P

/-- Of one kind and period, a candidate, and the later one. -/
def key (y : Budget) : Int × Int := (y.kind, y.period)
theorem cand_eq (kind at_ known : Int) (y : Budget) : cand kind at_ known y = (counts18 y at_ known && (decide (y.kind = -1) || decide (y.kind = kind))) := by
  unfold cand counts18
  rw [Bool.eq_iff_iff]
  simp

/-- What is kept for a key, over the budgets so far: none is a candidate of it; or the last one is there. -/
def Kept (p : List Budget) (kind at_ known : Int) (m : List ((Int × Int) × Budget)) : Prop :=
  ∀ k, match aget k m with
    | none => ∀ y ∈ p, cand kind at_ known y = true → key y ≠ k
    | some z => z ∈ p ∧ cand kind at_ known z = true ∧ key z = k ∧ ∀ y ∈ p, cand kind at_ known y = true → key y = k → y.at_ < z.at_ ∨ (y.at_ = z.at_ ∧ y.no ≤ z.no)

theorem Kept.step {p : List Budget} {kind at_ known : Int} {m : List ((Int × Int) × Budget)} (h : Kept p kind at_ known m) {x : Budget} (hx : ∀ y ∈ p, y.no < x.no) : Kept (p ++ [x]) kind at_ known (lastStep kind at_ known m x) := by
  intro k
  have hk := h k
  unfold lastStep
  cases hc : cand kind at_ known x
  · rw [if_neg (by simp)]
    cases e : aget k m with
    | none =>
      rw [e] at hk
      intro y hy hcy
      rcases List.mem_append.1 hy with hy | hy
      · exact hk y hy hcy
      · simp only [List.mem_singleton] at hy; subst hy; rw [hc] at hcy; simp at hcy
    | some z =>
      rw [e] at hk
      refine ⟨by simp [hk.1], hk.2.1, hk.2.2.1, fun y hy hcy hky => ?_⟩
      rcases List.mem_append.1 hy with hy | hy
      · exact hk.2.2.2 y hy hcy hky
      · simp only [List.mem_singleton] at hy; subst hy; rw [hc] at hcy; simp at hcy
  · rw [if_pos rfl]
    by_cases hkx : k = key x
    · subst hkx
      have hk : match aget (x.kind, x.period) m with
          | none => ∀ y ∈ p, cand kind at_ known y = true → key y ≠ key x
          | some z => z ∈ p ∧ cand kind at_ known z = true ∧ key z = key x ∧ ∀ y ∈ p, cand kind at_ known y = true → key y = key x → y.at_ < z.at_ ∨ (y.at_ = z.at_ ∧ y.no ≤ z.no) := hk
      cases e : aget (x.kind, x.period) m with
      | none =>
        rw [e] at hk
        simp only
        rw [show aget (key x) (aput (x.kind, x.period) x m) = some x by rw [aget_put]; simp [key]]
        refine ⟨by simp, hc, rfl, fun y hy hcy hky => ?_⟩
        rcases List.mem_append.1 hy with hy | hy
        · exact absurd hky (hk y hy hcy)
        · simp only [List.mem_singleton] at hy; subst hy; exact .inr ⟨rfl, Int.le_refl _⟩
      | some z =>
        rw [e] at hk
        simp only
        by_cases hle : z.at_ ≤ x.at_
        · rw [if_pos hle, show aget (key x) (aput (x.kind, x.period) x m) = some x by rw [aget_put]; simp [key]]
          refine ⟨by simp, hc, rfl, fun y hy hcy hky => ?_⟩
          rcases List.mem_append.1 hy with hy | hy
          · have h1 := hk.2.2.2 y hy hcy hky
            have h2 := hx y hy
            omega
          · simp only [List.mem_singleton] at hy; subst hy; exact .inr ⟨rfl, Int.le_refl _⟩
        · rw [if_neg hle]
          rw [show aget (key x) m = some z from e]
          refine ⟨by simp [hk.1], hk.2.1, hk.2.2.1, fun y hy hcy hky => ?_⟩
          rcases List.mem_append.1 hy with hy | hy
          · exact hk.2.2.2 y hy hcy hky
          · simp only [List.mem_singleton] at hy; subst hy; exact .inl (by omega)
    · have hkx' : k ≠ (x.kind, x.period) := hkx
      have hother : ∀ m', (m' = aput (x.kind, x.period) x m ∨ m' = m) → aget k m' = aget k m := by
        rintro m' (rfl | rfl)
        · rw [aget_put, if_neg hkx']
        · rfl
      rw [hother _ (by split; split; exact .inl rfl; exact .inr rfl; exact .inl rfl)]
      cases e : aget k m with
      | none =>
        rw [e] at hk
        intro y hy hcy
        rcases List.mem_append.1 hy with hy | hy
        · exact hk y hy hcy
        · simp only [List.mem_singleton] at hy; subst hy; exact fun e => hkx e.symm
      | some z =>
        rw [e] at hk
        refine ⟨by simp [hk.1], hk.2.1, hk.2.2.1, fun y hy hcy hky => ?_⟩
        rcases List.mem_append.1 hy with hy | hy
        · exact hk.2.2.2 y hy hcy hky
        · simp only [List.mem_singleton] at hy; subst hy; exact absurd hky.symm hkx

theorem ordered : ∀ (l : List Budget) (k : Int), chkFrom k l = 0 → l.Pairwise fun a b => a.no < b.no
  | [], _, _ => .nil
  | x :: l, k, h => by
    rw [chkFrom_cons] at h
    split at h
    · exact .cons (fun y hy => (chkFrom_right l _ h y hy).2) (ordered l _ h)
    · simp at h
theorem checkB_ordered {l : List Budget} (h : checkB l = 0) : l.Pairwise fun a b => a.no < b.no := by
  unfold checkB at h
  split at h
  · simp at h
  · exact ordered l _ h
theorem kept_all (kind at_ known : Int) : ∀ (q p : List Budget) (m : List ((Int × Int) × Budget)), Kept p kind at_ known m → (p ++ q).Pairwise (fun a b => a.no < b.no) → Kept (p ++ q) kind at_ known (q.foldl (lastStep kind at_ known) m)
  | [], p, m, h, _ => by simpa using h
  | x :: q, p, m, h, ho => by
    have hx : ∀ y ∈ p, y.no < x.no := fun y hy => (List.pairwise_append.1 ho).2.2 y hy x (by simp)
    have := kept_all kind at_ known q (p ++ [x]) _ (h.step hx) (by simpa using ho)
    simpa using this
theorem uniq {l : List Budget} (h : l.Pairwise fun a b => a.no < b.no) {a b : Budget} (ha : a ∈ l) (hb : b ∈ l) (e : a.no = b.no) : a = b := by
  induction l with
  | nil => simp at ha
  | cons x l ih =>
    rw [List.pairwise_cons] at h
    rcases List.mem_cons.1 ha with ea | ha'
    · rcases List.mem_cons.1 hb with eb | hb'
      · rw [ea, eb]
      · have := h.1 b hb'; rw [ea] at e; omega
    · rcases List.mem_cons.1 hb with eb | hb'
      · have := h.1 a ha'; rw [eb] at e; omega
      · exact ih h.2 ha' hb'

theorem standing_eq {l : List Budget} (h : checkB l = 0) (kind at_ known : Int) : standing l kind at_ known = standing18 l kind at_ known := by
  have ho := checkB_ordered h
  have hk := kept_all kind at_ known l [] [] (fun k => by simp [aget]) (by simpa using ho)
  rw [List.nil_append] at hk
  unfold standing standing18
  refine List.filter_congr fun x hx => ?_
  have hr := right_parts (checkB_right h x hx)
  have hkx := hk (key x)
  unfold stands pick18 stands18
  change (!x.gone && decide ((aget (key x) (lastOf l kind at_ known)).getD zeroB = x)) = _
  have hlo : lastOf l kind at_ known = l.foldl (lastStep kind at_ known) [] := rfl
  rw [← hlo] at hkx
  cases hg : x.gone
  case true => simp
  simp only [Bool.not_false, Bool.true_and]
  rw [Bool.eq_iff_iff]
  have hcx := cand_eq kind at_ known x
  cases e : aget (key x) (lastOf l kind at_ known) with
  | none =>
    rw [e] at hkx
    have hz : zeroB ≠ x := fun e => by rw [← e] at hr; simp [zeroB] at hr
    have hc : cand kind at_ known x = false := by
      cases hc : cand kind at_ known x
      · rfl
      · exact absurd rfl (hkx x hx hc)
    rw [hc] at hcx
    simp only [Option.getD_none, decide_eq_true_eq]
    constructor
    · intro e; exact absurd e hz
    · intro e2
      simp only [Bool.and_eq_true] at e2
      rw [e2.1, e2.2.1] at hcx
      simp at hcx
  | some z =>
    rw [e] at hkx
    obtain ⟨hzm, hzc, hzk, hmax⟩ := hkx
    simp only [Option.getD_some, decide_eq_true_eq]
    constructor
    · rintro rfl
      rw [hzc] at hcx
      have hcx := hcx.symm
      simp only [Bool.and_eq_true] at hcx ⊢
      refine ⟨hcx.2, hcx.1, ?_⟩
      rw [Bool.not_eq_true', List.any_eq_false]
      intro y hy hl
      simp only [later18, Bool.and_eq_true, Bool.or_eq_true, decide_eq_true_eq] at hl
      obtain ⟨⟨⟨h1, h2⟩, h3⟩, h4⟩ := hl
      have hyc : cand kind at_ known y = true := by
        rw [cand_eq, h3, h1, hcx.2]; rfl
      have := hmax y hy hyc (by simp [key, h1, h2])
      omega
    · intro hr2
      simp only [Bool.and_eq_true] at hr2
      have hc : cand kind at_ known x = true := by rw [cand_eq, hr2.1, hr2.2.1]; rfl
      have hm := hmax x hx hc rfl
      rcases Classical.em (z = x) with hzx | hzx
      · exact hzx
      · exfalso
        have hno : x.no ≠ z.no := fun e => hzx (uniq ho hx hzm e).symm
        have hzc2 := cand_eq kind at_ known z
        rw [hzc] at hzc2
        have hzc2 := hzc2.symm
        simp only [Bool.and_eq_true] at hzc2
        have hk1 : z.kind = x.kind := congrArg Prod.fst hzk
        have hk2 : z.period = x.period := congrArg Prod.snd hzk
        have hl : later18 x at_ known z = true := by
          simp only [later18, Bool.and_eq_true, Bool.or_eq_true, decide_eq_true_eq]
          refine ⟨⟨⟨hk1, hk2⟩, hzc2.1⟩, ?_⟩
          omega
        have : l.any (later18 x at_ known) = true := List.any_eq_true.2 ⟨z, hzm, hl⟩
        rw [this] at hr2
        simp at hr2
end Go.Abs.P

/- Chapter 53, plain: which budgets are overspent. No program. No conditions. -/
namespace Go.Abs.P

theorem mem_ins (k j : Int) (l : List Int) : j ∈ ins k l ↔ j ∈ l ∨ j = k := by
  unfold ins
  split
  · rename_i h
    exact ⟨.inl, fun e => e.elim id fun e => by rw [e]; exact h⟩
  · simp
theorem nodup_ins (k : Int) {l : List Int} (h : l.Nodup) : (ins k l).Nodup := by
  unfold ins
  split
  · exact h
  · rename_i hn
    rw [List.nodup_append]
    refine ⟨h, by simp, fun a ha b hb => ?_⟩
    simp only [List.mem_singleton] at hb
    subst hb
    intro e; subst e; exact hn ha
theorem bad1_mem (u : List Use) (known at_ : Int) (k : Int) : ∀ (sl : List Budget) (met : List Int), k ∈ sl.foldl (badStep1 u known at_) met ↔ k ∈ met ∨ ∃ y ∈ sl, fine y (spentOf ⟨y, u, known⟩ at_).1 (spentOf ⟨y, u, known⟩ at_).2 = false ∧ y.no = k
  | [], met => by simp
  | y :: sl, met => by
    rw [List.foldl_cons, bad1_mem u known at_ k sl]
    unfold badStep1
    cases hf : fine y (spentOf ⟨y, u, known⟩ at_).1 (spentOf ⟨y, u, known⟩ at_).2
    · rw [if_neg (by simp), mem_ins]
      constructor
      · rintro ((h | h) | ⟨z, hz, h⟩)
        · exact .inl h
        · exact .inr ⟨y, by simp, hf, h.symm⟩
        · exact .inr ⟨z, by simp [hz], h⟩
      · rintro (h | ⟨z, hz, h⟩)
        · exact .inl (.inl h)
        · rcases List.mem_cons.1 hz with e | hz
          · exact .inl (.inr (by rw [← h.2, e]))
          · exact .inr ⟨z, hz, h⟩
    · rw [if_pos rfl]
      constructor
      · rintro (h | ⟨z, hz, h⟩)
        · exact .inl h
        · exact .inr ⟨z, by simp [hz], h⟩
      · rintro (h | ⟨z, hz, h⟩)
        · exact .inl h
        · rcases List.mem_cons.1 hz with e | hz
          · rw [e, hf] at h; simp at h
          · exact .inr ⟨z, hz, h⟩
theorem bad1_nodup (u : List Use) (known at_ : Int) : ∀ (sl : List Budget) (met : List Int), met.Nodup → (sl.foldl (badStep1 u known at_) met).Nodup
  | [], met, h => h
  | y :: sl, met, h => by
    rw [List.foldl_cons]
    refine bad1_nodup u known at_ sl _ ?_
    unfold badStep1
    split
    · exact h
    · exact nodup_ins _ h
theorem bad_mem (l : List Budget) (u : List Use) (known : Int) (k : Int) : ∀ (v : List Use) (met : List Int), k ∈ v.foldl (badStep l u known) met ↔ k ∈ met ∨ ∃ x ∈ v, ¬ known < x.known ∧ ∃ y ∈ standing l x.kind x.at_ known, fine y (spentOf ⟨y, u, known⟩ x.at_).1 (spentOf ⟨y, u, known⟩ x.at_).2 = false ∧ y.no = k
  | [], met => by simp
  | x :: v, met => by
    rw [List.foldl_cons, bad_mem l u known k v]
    unfold badStep
    by_cases hk : known < x.known
    · rw [if_pos hk]
      constructor
      · rintro (h | ⟨z, hz, h⟩)
        · exact .inl h
        · exact .inr ⟨z, by simp [hz], h⟩
      · rintro (h | ⟨z, hz, h⟩)
        · exact .inl h
        · rcases List.mem_cons.1 hz with e | hz
          · rw [e] at h; exact absurd hk h.1
          · exact .inr ⟨z, hz, h⟩
    · rw [if_neg hk, bad1_mem]
      constructor
      · rintro ((h | h) | ⟨z, hz, h⟩)
        · exact .inl h
        · exact .inr ⟨x, by simp, hk, h⟩
        · exact .inr ⟨z, by simp [hz], h⟩
      · rintro (h | ⟨z, hz, h⟩)
        · exact .inl (.inl h)
        · rcases List.mem_cons.1 hz with e | hz
          · rw [e] at h; exact .inl (.inr h.2)
          · exact .inr ⟨z, hz, h⟩
theorem bad_nodup (l : List Budget) (u : List Use) (known : Int) : ∀ (v : List Use) (met : List Int), met.Nodup → (v.foldl (badStep l u known) met).Nodup
  | [], met, h => h
  | x :: v, met, h => by
    rw [List.foldl_cons]
    refine bad_nodup l u known v _ ?_
    unfold badStep
    split
    · exact h
    · exact bad1_nodup _ _ _ _ _ h

theorem sort_to {a b : List Int} (h : ∀ k, k ∈ a ↔ k ∈ b) (ha : a.Nodup) (hb : b.Pairwise (· < ·)) : sortI a = b := by
  have hbn : b.Nodup := hb.imp fun h e => by omega
  have hp : a.Perm b := (List.perm_ext_iff_of_nodup ha hbn).2 h
  unfold sortI
  rw [mergeSort_of_perm_i hp]
  exact List.mergeSort_of_pairwise (hb.imp fun h => by simp; omega)

theorem over_eq {l : List Budget} {u : List Use} {known : Int} (he : examine l u = 0) : sortI (overB l u known) = (l.filter (over53 l u known)).map (·.no) := by
  obtain ⟨hc, hu, huf⟩ := examine_parts he
  have ho := checkB_ordered hc
  refine sort_to (fun k => ?_) (bad_nodup l u known u [] (by simp)) ?_
  · unfold overB
    rw [bad_mem, List.mem_map]
    simp only [List.not_mem_nil, false_or]
    constructor
    · rintro ⟨x, hx, hk, y, hy, hf, rfl⟩
      have hyl := standing_sub l _ _ _ y hy
      refine ⟨y, List.mem_filter.2 ⟨hyl, List.any_eq_true.2 ⟨x, hx, ?_⟩⟩, rfl⟩
      rw [standing_eq hc] at hy
      have hh : hasB (standing18 l x.kind x.at_ known) y.no = true := List.any_eq_true.2 ⟨y, hy, by simp⟩
      simp [over1, hk, hh, hf]
    · rintro ⟨y, hy, rfl⟩
      obtain ⟨hyl, hov⟩ := List.mem_filter.1 hy
      obtain ⟨x, hx, h1⟩ := List.any_eq_true.1 hov
      simp only [over1, Bool.and_eq_true, Bool.not_eq_true', decide_eq_false_iff_not] at h1
      obtain ⟨hk, hh, hf⟩ := h1
      obtain ⟨z, hz, hzn⟩ := List.any_eq_true.1 hh
      have hzl : z ∈ l := (List.mem_filter.1 hz).1
      have hzy : z = y := uniq ho hzl hyl (by simpa using hzn)
      subst hzy
      exact ⟨x, hx, hk, z, by rw [standing_eq hc]; exact hz, hf, rfl⟩
  · rw [List.pairwise_map]
    exact ho.sublist List.filter_sublist

theorem overR_eq (l : List Budget) (u : List Use) (known : Int) : overR l u known = over53R l u known := by
  unfold overR over53R
  by_cases he : examine l u = 0
  · have hn : ¬ (examine l u ≠ 0) := by simp [he]
    rw [if_neg hn, if_neg hn, over_eq he]
    have : within 1099511627776 [known] = isTime known := by simp [within, isTime]
    rw [this]
  · rw [if_pos he, if_pos he]
theorem over53R_len (l : List Budget) (u : List Use) (known : Int) : (over53R l u known).1.length ≤ 1048576 := by
  unfold over53R
  by_cases he : examine l u = 0
  · rw [if_neg (by simp [he])]
    have := checkB_len (examine_parts he).1
    split
    · simp only [List.length_map]
      have := List.length_filter_le (over53 l u known) l
      omega
    · simp
  · rw [if_pos he]; simp
end Go.Abs.P

/- Chapter 53, plain: the times of a period. No program. No conditions. -/
namespace Go.Abs.P

theorem put53_nil (t : Int) : put53 [] t = [t] := by simp [put53, putAt]
theorem put53_cons (x t : Int) (l : List Int) : put53 (x :: l) t = if x < t then x :: put53 l t else if x = t then x :: l else t :: x :: l := by
  unfold put53 putAt
  have ht : List.takeWhile (fun y => decide (y < t)) (x :: l) = if x < t then x :: List.takeWhile (fun y => decide (y < t)) l else [] := by
    rw [List.takeWhile_cons]; by_cases h : x < t <;> simp [h]
  rw [ht]
  by_cases h : x < t
  · simp only [h, if_true, List.length_cons, List.getElem?_cons_succ, List.take_succ_cons, List.drop_succ_cons, List.cons_append]
    split <;> simp
  · simp only [h, if_false]
    by_cases h2 : x = t
    · simp [h2]
    · simp [h2]
theorem mem_put (k t : Int) : ∀ l : List Int, k ∈ put53 l t ↔ k ∈ l ∨ k = t
  | [] => by simp [put53_nil]
  | x :: l => by
    rw [put53_cons]
    split
    · simp only [List.mem_cons, mem_put k t l]
      constructor
      · rintro (h | h | h)
        · exact .inl (.inl h)
        · exact .inl (.inr h)
        · exact .inr h
      · rintro ((h | h) | h)
        · exact .inl h
        · exact .inr (.inl h)
        · exact .inr (.inr h)
    · split
      · rename_i h; subst h
        constructor
        · exact .inl
        · rintro (h | h)
          · exact h
          · simp [h]
      · simp only [List.mem_cons]
        constructor
        · rintro (h | h)
          · exact .inr h
          · exact .inl h
        · rintro (h | h)
          · exact .inr h
          · exact .inl h
theorem sorted_put (t : Int) : ∀ l : List Int, l.Pairwise (· < ·) → (put53 l t).Pairwise (· < ·)
  | [], _ => by simp [put53_nil]
  | x :: l, h => by
    rw [List.pairwise_cons] at h
    rw [put53_cons]
    split
    · rename_i hx
      refine .cons (fun k hk => ?_) (sorted_put t l h.2)
      rcases (mem_put k t l).1 hk with hk | hk
      · exact h.1 k hk
      · omega
    · split
      · exact .cons h.1 h.2
      · refine .cons (fun k hk => ?_) (.cons h.1 h.2)
        rcases List.mem_cons.1 hk with hk | hk
        · omega
        · have := h.1 k hk; omega
theorem fold_put : ∀ (v : List Use) (l : List Int), l.Pairwise (· < ·) → (v.foldl (fun l x => put53 l x.at_) l).Pairwise (· < ·) ∧ ∀ k, k ∈ v.foldl (fun l x => put53 l x.at_) l ↔ k ∈ l ∨ ∃ x ∈ v, x.at_ = k
  | [], l, h => ⟨h, by simp⟩
  | x :: v, l, h => by
    have ih := fold_put v (put53 l x.at_) (sorted_put _ _ h)
    refine ⟨ih.1, fun k => ?_⟩
    rw [List.foldl_cons, ih.2, mem_put]
    constructor
    · rintro ((h | h) | ⟨y, hy, h⟩)
      · exact .inl h
      · exact .inr ⟨x, by simp, h.symm⟩
      · exact .inr ⟨y, by simp [hy], h⟩
    · rintro (h | ⟨y, hy, h⟩)
      · exact .inl (.inl h)
      · rcases List.mem_cons.1 hy with e | hy
        · exact .inl (.inr (by rw [← h, e]))
        · exact .inr ⟨y, hy, h⟩
theorem times_keys : ∀ (v : List Use) (m : List (Int × (Int × Int))), (m.map (·.1)).Nodup → ((v.foldl timesStep m).map (·.1)).Nodup ∧ ∀ k, k ∈ (v.foldl timesStep m).map (·.1) ↔ k ∈ m.map (·.1) ∨ ∃ x ∈ v, x.at_ = k
  | [], m, h => ⟨h, by simp⟩
  | x :: v, m, h => by
    have hk : (timesStep m x).map (·.1) = ins x.at_ (m.map (·.1)) := by unfold timesStep; rw [aput_keys]
    have ih := times_keys v (timesStep m x) (by rw [hk]; exact nodup_ins _ h)
    refine ⟨ih.1, fun k => ?_⟩
    rw [List.foldl_cons, ih.2, hk, mem_ins]
    constructor
    · rintro ((h | h) | ⟨y, hy, h⟩)
      · exact .inl h
      · exact .inr ⟨x, by simp, h.symm⟩
      · exact .inr ⟨y, by simp [hy], h⟩
    · rintro (h | ⟨y, hy, h⟩)
      · exact .inl (.inl h)
      · rcases List.mem_cons.1 hy with e | hy
        · exact .inl (.inr (by rw [← h, e]))
        · exact .inr ⟨y, hy, h⟩
/-- The times are the same. -/
theorem times_eq {b : Budget} (hk : -1 ≤ b.kind) (u : List Use) (known period : Int) : sortI ((timesOf ⟨b, u, known⟩ period).map (·.1)) = times53 b u known period := by
  have hf : (fun x => of53 b x known && decide (IntKind.i64.wrap (x.at_.tdiv b.period) = period)) = counts ⟨b, u, known⟩ period := by
    funext x; rw [of53_kind hk]; rfl
  unfold times53 timesOf
  rw [hf]
  have h1 := times_keys (u.filter (counts ⟨b, u, known⟩ period)) [] (by simp)
  have h2 := fold_put (u.filter (counts ⟨b, u, known⟩ period)) [] (by simp)
  exact sort_to (fun k => by rw [h1.2, h2.2]; simp) h1.1 h2.1
end Go.Abs.P

/- Chapter 53, plain: sums as the machine counts. No program. No conditions. -/
namespace Go.Abs.P
theorem wrap_if (n : Int) : IntKind.i64.wrap n = if n % 18446744073709551616 ≥ 9223372036854775808 then n % 18446744073709551616 - 18446744073709551616 else n % 18446744073709551616 := by
  simp [IntKind.wrap, IntKind.bits, IntKind.signed]
theorem wrap_add (a b : Int) : IntKind.i64.wrap (IntKind.i64.wrap a + b) = IntKind.i64.wrap (a + b) := by
  rw [wrap_if a]
  split
  · rw [wrap_if, wrap_if (a + b)]; split <;> split <;> omega
  · rw [wrap_if, wrap_if (a + b)]; split <;> split <;> omega
theorem wrap_add' (a b : Int) : IntKind.i64.wrap (a + IntKind.i64.wrap b) = IntKind.i64.wrap (a + b) := by
  rw [Int.add_comm, wrap_add, Int.add_comm]
theorem wrap_add2 (a b : Int) : IntKind.i64.wrap (IntKind.i64.wrap a + IntKind.i64.wrap b) = IntKind.i64.wrap (a + b) := by
  rw [wrap_add, wrap_add']
theorem wrap_wrap (a : Int) : IntKind.i64.wrap (IntKind.i64.wrap a) = IntKind.i64.wrap a := by
  have := wrap_add a 0
  simpa using this

/-- Exact sums. -/
def total (l : List Use) : Int := (l.map (·.value)).sum
theorem addUp_eq : ∀ (l : List Use) (c v : Int), addUp (IntKind.i64.wrap c) (IntKind.i64.wrap v) l = (IntKind.i64.wrap (c + l.length), IntKind.i64.wrap (v + total l))
  | [], c, v => by simp [addUp, total]
  | x :: l, c, v => by
    rw [addUp, wrap_add, wrap_add, addUp_eq l (c + 1) (v + x.value)]
    have e1 : c + 1 + (l.length : Int) = c + ((x :: l).length : Int) := by simp only [List.length_cons]; omega
    have e2 : v + x.value + total l = v + total (x :: l) := by simp only [total, List.map_cons, List.sum_cons]; omega
    rw [e1, e2]
theorem spentOf_eq (b : Book) (t : Int) (us : List Use) (h : us = (b.u.filter (counts b (IntKind.i64.wrap (t.tdiv b.b.period)))).filter fun x => decide (x.at_ ≤ t)) : spentOf b t = (IntKind.i64.wrap us.length, IntKind.i64.wrap (total us)) := by
  have := addUp_eq us 0 0
  rw [show IntKind.i64.wrap 0 = 0 from by decide, Int.zero_add, Int.zero_add] at this
  unfold spentOf
  rw [← h, this]

/-- What a map of times holds: the sums of the uses at a time. -/
def at1 (t : Int) (l : List Use) : List Use := l.filter fun x => decide (x.at_ = t)
def Holds53 (v : List Use) (m : List (Int × (Int × Int))) : Prop := ∀ t, (aget t m).getD (0, 0) = (IntKind.i64.wrap (at1 t v).length, IntKind.i64.wrap (total (at1 t v)))
theorem holds_step {v : List Use} {m : List (Int × (Int × Int))} (h : Holds53 v m) (x : Use) : Holds53 (v ++ [x]) (timesStep m x) := by
  intro t
  unfold timesStep
  rw [aget_put]
  have hx := h x.at_
  by_cases e : t = x.at_
  · subst e
    rw [if_pos rfl, Option.getD_some, hx]
    have e1 : at1 x.at_ (v ++ [x]) = at1 x.at_ v ++ [x] := by simp [at1, List.filter_append]
    rw [e1]
    simp only [wrap_add, List.length_append, List.length_cons, List.length_nil, total, List.map_append, List.sum_append, List.map_cons, List.map_nil, List.sum_cons, List.sum_nil, Int.add_zero]
    rfl
  · rw [if_neg e, h t]
    have e1 : at1 t (v ++ [x]) = at1 t v := by
      have e2 : ¬ x.at_ = t := fun e' => e e'.symm
      simp [at1, List.filter_append, e2]
    rw [e1]
theorem holds_all : ∀ (w v : List Use) (m : List (Int × (Int × Int))), Holds53 v m → Holds53 (v ++ w) (w.foldl timesStep m)
  | [], v, m, h => by simpa using h
  | x :: w, v, m, h => by
    have := holds_all w (v ++ [x]) _ (holds_step h x)
    simpa using this
end Go.Abs.P

/- Chapter 53, plain: the steps. No program. No conditions. -/
namespace Go.Abs.P
theorem split_sum (p q : Use → Bool) : ∀ v : List Use, (∀ x ∈ v, ¬ (p x = true ∧ q x = true)) → (v.filter p).length + (v.filter q).length = (v.filter fun x => p x || q x).length ∧ total (v.filter p) + total (v.filter q) = total (v.filter fun x => p x || q x)
  | [], _ => by simp [total]
  | x :: v, h => by
    have ih := split_sum p q v fun y hy => h y (by simp [hy])
    have hx := h x (by simp)
    unfold total at *
    cases hp : p x <;> cases hq : q x
    · simp [List.filter_cons, hp, hq]; exact ih
    · simp [List.filter_cons, hp, hq]; omega
    · simp [List.filter_cons, hp, hq]; omega
    · exact absurd ⟨hp, hq⟩ hx
def upto (t : Int) (v : List Use) : List Use := v.filter fun x => decide (x.at_ ≤ t)
theorem steps_eq (b : Budget) (m : List (Int × (Int × Int))) (v : List Use) (hm : Holds53 v m) : ∀ (ts done : List Int), (done ++ ts).Pairwise (· < ·) → (∀ x ∈ v, x.at_ ∈ done ++ ts) →
    stepsFrom b m (IntKind.i64.wrap (v.filter fun x => done.contains x.at_).length) (IntKind.i64.wrap (total (v.filter fun x => done.contains x.at_))) ts = ts.map fun t => (t, IntKind.i64.wrap (upto t v).length, fine b (IntKind.i64.wrap (upto t v).length) (IntKind.i64.wrap (total (upto t v))))
  | [], _, _, _ => rfl
  | t :: ts, done, ho, hv => by
    have hsp := List.pairwise_append.1 ho
    have ht : t ∉ done := fun h => by have := hsp.2.2 t h t (by simp); omega
    have hs := split_sum (fun x => done.contains x.at_) (fun x => decide (x.at_ = t)) v fun x _ ⟨h1, h2⟩ => by
      simp only [List.contains_iff_mem, decide_eq_true_eq] at h1 h2
      exact ht (by rw [← h2]; exact h1)
    have e1 : (v.filter fun x => done.contains x.at_ || decide (x.at_ = t)) = upto t v := by
      unfold upto
      refine List.filter_congr fun x hx => ?_
      rw [Bool.eq_iff_iff]
      simp only [Bool.or_eq_true, List.contains_iff_mem, decide_eq_true_eq]
      constructor
      · rintro (h | h)
        · have := hsp.2.2 x.at_ h t (by simp); omega
        · omega
      · intro h
        rcases List.mem_append.1 (hv x hx) with h1 | h1
        · exact .inl h1
        · rcases List.mem_cons.1 h1 with h1 | h1
          · exact .inr h1
          · have := (List.pairwise_cons.1 hsp.2.1).1 _ h1; omega
    have e2 : (v.filter fun x => (done ++ [t]).contains x.at_) = upto t v := by
      rw [← e1]
      refine List.filter_congr fun x _ => ?_
      rw [Bool.eq_iff_iff]
      simp
    rw [e1] at hs
    have ih := steps_eq b m v hm ts (done ++ [t]) (by simpa using ho) (by simpa using hv)
    rw [e2] at ih
    rw [stepsFrom_cons, hm t, List.map_cons]
    simp only [wrap_add2]
    have e3 : ((v.filter fun x => done.contains x.at_).length : Int) + ((at1 t v).length : Int) = ((upto t v).length : Int) := by
      have := hs.1; unfold at1; omega
    have e4 : total (v.filter fun x => done.contains x.at_) + total (at1 t v) = total (upto t v) := hs.2
    rw [e3, e4, ih]

theorem history_steps {b : Budget} (hk : -1 ≤ b.kind) (u : List Use) (known period : Int) : stepsFrom b (timesOf ⟨b, u, known⟩ period) 0 0 (times53 b u known period) = (times53 b u known period).map (step53 b u known) := by
  have hf : (fun x => of53 b x known && decide (IntKind.i64.wrap (x.at_.tdiv b.period) = period)) = counts ⟨b, u, known⟩ period := by
    funext x; rw [of53_kind hk]; rfl
  have h2 := fold_put (u.filter (counts ⟨b, u, known⟩ period)) [] (by simp)
  have ht : times53 b u known period = (u.filter (counts ⟨b, u, known⟩ period)).foldl (fun l x => put53 l x.at_) [] := by unfold times53; rw [hf]
  rw [← ht] at h2
  have hm : Holds53 (u.filter (counts ⟨b, u, known⟩ period)) (timesOf ⟨b, u, known⟩ period) := by
    have := holds_all (u.filter (counts ⟨b, u, known⟩ period)) [] [] (fun t => by simp [aget, at1, total]; decide)
    rw [List.nil_append] at this
    exact this
  have := steps_eq b _ _ hm (times53 b u known period) [] (by simpa using h2.1) (fun x hx => by rw [List.nil_append, h2.2]; exact .inr ⟨x, hx, rfl⟩)
  have z : IntKind.i64.wrap 0 = 0 := by decide
  have e0 : ((u.filter (counts ⟨b, u, known⟩ period)).filter fun x => ([] : List Int).contains x.at_) = [] := by simp
  rw [e0] at this
  simp only [List.length_nil, total, List.map_nil, List.sum_nil] at this
  rw [show ((0 : Nat) : Int) = 0 from rfl, z] at this
  rw [this]
  refine List.map_congr_left fun t hmem => ?_
  obtain ⟨x, hx, rfl⟩ : ∃ x ∈ u.filter (counts ⟨b, u, known⟩ period), x.at_ = t := by
    rcases (h2.2 t).1 hmem with h | h
    · simp at h
    · exact h
  have hper : IntKind.i64.wrap (x.at_.tdiv b.period) = period := by
    have := (List.mem_filter.1 hx).2
    simp only [counts, Bool.and_eq_true, decide_eq_true_eq] at this
    exact this.2
  have hs := spentOf_eq ⟨b, u, known⟩ x.at_ (upto x.at_ (u.filter (counts ⟨b, u, known⟩ period))) (by rw [hper]; rfl)
  unfold step53
  rw [hs]; rfl

theorem historyR_eq (l : List Budget) (u : List Use) (no period known : Int) : historyR l u no period known = history53R l u no period known := by
  unfold historyR history53R
  by_cases he : examine l u = 0
  · have hn : ¬ (examine l u ≠ 0) := by simp [he]
    rw [if_neg hn, if_neg hn]
    have hc := (examine_parts he).1
    cases hf : findB l no with
    | none => rfl
    | some b =>
      have hb := right_parts (checkB_right hc b (findB_mem hf))
      have hw : within 1099511627776 [known] = isTime known := by simp [within, isTime]
      simp only [hw]
      rw [times_eq (by omega), history_steps (by omega)]
  · rw [if_pos he, if_pos he]
end Go.Abs.P

/- Chapter 53: the first two statements' functions return true. No conditions. -/
namespace Go.Abs.P
open Go.Proofs
theorem AccountsSpec_true {C : Ctx} (h : In C) (l : List Budget) (u : List Use) (no at_ known : Int) : ∀ ℓ, wp C ℓ law53_AccountsSpec.body ⟨argSlots 0 [.dat (.list (l.map Budget.enc) false), .dat (.list (u.map Use.enc) false), .dat (I no), .dat (I at_), .dat (I known)], [], noneF, 0, []⟩ (fnK law53_AccountsSpec.res (Gives (.dat (.bool true)))) :=
  AccountsSpec_wp h l u no at_ known (overR_eq l u known) (over53R_len l u known)
theorem fold_put_len : ∀ (v : List Use) (l : List Int), (v.foldl (fun l x => put53 l x.at_) l).length ≤ l.length + v.length
  | [], l => by simp
  | x :: v, l => by
    have h1 := fold_put_len v (put53 l x.at_)
    have h2 := put53_len l x.at_
    simp only [List.foldl_cons, List.length_cons]; omega
theorem history53R_len (l : List Budget) (u : List Use) (no period known : Int) : (history53R l u no period known).1.length ≤ 1048576 := by
  unfold history53R
  by_cases he : examine l u = 0
  · have hn : ¬ (examine l u ≠ 0) := by simp [he]
    rw [if_neg hn]
    have hu := (examine_parts he).2.1
    cases hf : findB l no with
    | none => simp
    | some b =>
      simp only
      split
      · simp only [List.length_map]
        have h1 := fold_put_len (u.filter fun x => of53 b x known && decide (IntKind.i64.wrap (x.at_.tdiv b.period) = period)) []
        have h2 := List.length_filter_le (fun x => of53 b x known && decide (IntKind.i64.wrap (x.at_.tdiv b.period) = period)) u
        simp only [List.length_nil] at h1
        unfold times53
        omega
      · simp
  · rw [if_pos he]; simp
theorem AccountsHistorySpec_true {C : Ctx} (h : In C) (l : List Budget) (u : List Use) (no period known : Int) : ∀ ℓ, wp C ℓ law53_AccountsHistorySpec.body ⟨argSlots 0 [.dat (.list (l.map Budget.enc) false), .dat (.list (u.map Use.enc) false), .dat (I no), .dat (I period), .dat (I known)], [], noneF, 0, []⟩ (fnK law53_AccountsHistorySpec.res (Gives (.dat (.bool true)))) :=
  AccountsHistorySpec_wp h l u no period known (historyR_eq l u no period known) (history53R_len l u no period known)
#print axioms AccountsSpec_true
#print axioms AccountsHistorySpec_true
end Go.Abs.P

/- The abstract layer: from a call in the layer to a call of the kit's. No conditions. -/
namespace Go.Abs
open Go.RowKit

/-- The whole as it begins: every old cell is known; nothing is owned. -/
def Mem.start (W : World) : Mem := ⟨fun b o => W.cell? ⟨b, o, none⟩, fun _ => none, fun _ _ => none, 0, W.heap.size⟩
def Ctx.start (P : Program) (W : World) : Ctx := ⟨P, fun _ => .any, W.heap.size, W⟩
theorem RS.start (P : Program) (W : World) : RS (Ctx.start P W) (Mem.start W) (fun _ => none) W :=
  ⟨fun _ _ _ h => ⟨h, rfl⟩, fun _ _ _ h => by simp [Mem.start] at h, fun _ _ h => by simp at h, fun _ _ => ⟨rfl, fun _ _ => rfl⟩, fun _ _ h => by simp at h, fun _ _ h => by simp [Mem.start] at h, fun _ => by simp [Ctx.start, V], Below.refl _ _, ⟨Nat.le_refl _, Nat.le_refl _⟩⟩

section
variable {C : Ctx} {c : Cfg}
/-- A function of the program, called; told to the kit. -/
theorem callsF (hc : CfgOk C.P c) {f : Nat} {fn : Func} (hf : C.P.funcs[f]? = some fn) {body : Code} (hbody : fn.body = some body) (hs : Sound C c fn.ntmps body) {ir : IR} (hcomp : comp c body = some ir.strip) (hfit : ir.fits fn.ntmps = true)
    {args : List D} (hlen : args.length ≤ fn.ntmps) {Q : Res → OwnF → Prop} (hQ : ∀ d S', ¬ Q (.pan d) S')
    (hwp : ∀ ℓ, wp C ℓ ir ⟨argSlots 0 args, [], fun _ => none, 0, []⟩ (fnK (fn.results.toList.map (compRV c)) Q)) {M : Mem} {g : OwnF} {w : World} {vs : List Value} (hrs : RS C M g w) (hargs : VDl M args vs) :
    Calls C.P f vs.toArray w (fun e w' => ∃ v M' g' d S', e = .returned v ∧ RS C M' g' w' ∧ VD M' d v ∧ Q (.ret d) S') := by
  intro cs
  obtain ⟨hle1, hrs1⟩ := hrs.level
  have hgc : g (.ctr M.nf) = none := (hrs.nf M.nf (Nat.le_refl _)).1
  have hsz : args.length = vs.toArray.size := by
    have := (VDl_get hargs).1; simp at this ⊢; omega
  generalize hA : vs.toArray = A at hsz
  have hAl : A.toList = vs := by rw [← hA]
  have hgo : ∀ q b, g q = some b → gset g (.ctr M.nf) (.ctr 0) q = some b := by
    intro q b h
    rw [gset_other _ _ (by intro e; subst e; rw [hgc] at h; simp at h)]; exact h
  -- the frame
  have hfr : FR C M.nf fn.ntmps w.heap.size { M with nf := M.nf + 1, hs := w.heap.size } (gset g (.ctr M.nf) (.ctr 0)) w ⟨argSlots 0 args, [], fun _ => none, 0, []⟩ (A ++ Array.replicate (fn.ntmps - A.size) undef) [] := by
    refine ⟨hrs1, ⟨fun r b h => by simp [ownGet] at h, fun r b h => by simp at h, fun r h => by simp [Own.has, ownGet] at h, by simp, ⟨by simp [Own.has, ownGet], rfl⟩⟩, ?_, ?_, .nil, Nat.le_refl _⟩
    · simp only [Array.size_append, Array.size_replicate]; omega
    · refine argSlots_ok (fun t => (A ++ Array.replicate (fn.ntmps - A.size) undef).getD t undef) 0 _ _ (VDl_mono hle1 hargs) (fun j v hj => ?_)
      rw [← hAl, Array.getElem?_toList] at hj
      have hlt : j < A.size := (Array.getElem?_eq_some_iff.1 hj).1
      simp only [Nat.zero_add]
      rw [Array.getD_eq_getD_getElem?, Array.getElem?_append_left hlt, hj]; rfl
  have hent : Frame.enter C.P f A .normal = fon (Frame.enter C.P f A .normal) (A ++ Array.replicate (fn.ntmps - A.size) undef) [] [.code body] := by
    simp [Frame.enter, fon, hf, hbody]
  have hends := hs ir hcomp hfit M.nf w.heap.size (Frame.enter C.P f A .normal) cs [] _ _ w _ _ _ _ (.inl rfl) ⟨fn, hf⟩ hfr (hwp M.nf)
  rw [← hent] at hends
  obtain ⟨e, st', M', g', tm', df', w', hq, hfr', hle', hmv', harr⟩ := hends
  have ret : ∀ k', Steps C.P (lone (Frame.enter C.P f A .normal) cs w) (lone (fon (Frame.enter C.P f A .normal) tm' df' k') cs w') → (k' = [] ∨ ∃ r, k' = .code .ret :: r) → fnK (fn.results.toList.map (compRV c)) Q .ret st' →
      ∃ e w' fr, (∃ v M' g' d S', e = .returned v ∧ RS C M' g' w' ∧ VD M' d v ∧ Q (.ret d) S') ∧ Comes C.P (lone (Frame.enter C.P f A .normal) cs w) (lone fr cs w') e ∧ fr.fn = f ∧ fr.leaving C.P w' e := by
    intro k' hsteps hk' ⟨hdf, ds, d', S', h1, h2, h3, h4⟩
    have hdr := hfr'.df
    rw [hdf] at hdr
    have hstep1 : step C.P (lone (fon (Frame.enter C.P f A .normal) tm' df' k') cs w') = .next (lone { fon (Frame.enter C.P f A .normal) tm' df' k' with mode := .returning } cs w') := by
      rcases hk' with rfl | ⟨r, rfl⟩
      · exact step_lone_go (by simp [stepG, stepG.exec, fon, Frame.enter])
      · exact step_lone_go (by simp [stepG, stepG.exec, fon, Frame.enter])
    obtain ⟨g2, w2, s1, s2, s3, s4⟩ := unmark df' g' w' hfr'.rs hdr { fon (Frame.enter C.P f A .normal) tm' df' k' with mode := .returning } cs (by simp) rfl
    obtain ⟨v, hv1, hv2⟩ := results_ok hc s2 (fun r b hr => by
      have hin : st'.own.has r ∨ st'.out r ≠ none := by
        unfold St.get at hr
        split at hr
        · rename_i b' e; exact .inl (has_of e)
        · exact .inr (by rw [hr]; simp)
      exact s4 r b (hfr'.sr.get r b hr) (fun _ _ _ => hin)) hfr'.tm h1
    exact ⟨.returned v, w2, _, ⟨v, M', g2, d', S', rfl, s2, h2 _ _ hv2, h4⟩, hsteps.trans (.head hstep1 s1), rfl, ⟨rfl, rfl, rfl, fn, hf, hv1⟩⟩
  cases e with
  | exit id => exact hq.elim
  | normal => exact ret [] harr (.inl rfl) hq
  | ret => obtain ⟨k', hk'⟩ := harr; exact ret _ hk' (.inr ⟨k', rfl⟩) hq
  | pan d =>
    obtain ⟨hdf, S', h3, h4⟩ := hq
    exact (hQ _ _ h4).elim
end
end Go.Abs

/- The abstract layer: from a statement's function in the layer to the statement's row. No conditions. -/
namespace Go.Abs
open Go.RowKit Go.ChangeShapes Go.WideShapes Go.ChangeAt

/-- The parts of a struct or an array: their types, and where they begin. -/
def piecesOf (P : Program) (t : TypeId) : Option (List (TypeId × Nat)) := match P.underlying t with
  | some (.struct fs) => some (fs.toList.map fun f => (f.type, f.offset))
  | some (.array n e) => some ((List.range n).map fun i => (e, i * P.cellsOf e))
  | _ => none
def tiles (P : Program) (m : Nat) : List (TypeId × Nat) → Nat → Bool
  | [], o => o == m
  | p :: ps, o => p.2 == o && tiles P m ps (o + P.cellsOf p.1)
/-- Types of plain data: a list of them, with all that they are made of. -/
def plainT (P : Program) (ts : List TypeId) (t : TypeId) : Bool := match P.underlying t with
  | some .bool | some (.int _) | some .string => true
  | some (.slice e) => ts.contains e && P.cellsOf e != 0
  | some (.struct _) | some (.array _ _) => match piecesOf P t with
    | some ps => ps.all (fun p => ts.contains p.1) && tiles P (P.cellsOf t) ps 0
    | none => false
  | _ => false
def plainTs (P : Program) (ts : List TypeId) : Bool := ts.all (plainT P ts)
def aggT (P : Program) (t : TypeId) : Bool := match P.underlying t with
  | some (.struct _) | some (.array _ _) => true
  | _ => false
def packD (g : Bool) (cs : List Dat) : Dat := bif g then .agg cs else cs.headD .any

/-- Parts, one behind the other. -/
def fitsEach (F : TypeId → List Dat → Prop) : List TypeId → List Dat → Prop
  | [], ds => ds = []
  | t :: ts, ds => ∃ a b, ds = a ++ b ∧ F t a ∧ fitsEach F ts b
/-- What the cells of a value of a type look like. -/
def fits (P : Program) : Nat → TypeId → List Dat → Prop
  | 0, _, _ => False
  | n + 1, t, ds => match P.underlying t with
    | some .bool => ∃ b, ds = [.bool b]
    | some (.int k) => ∃ z, ds = [.int k z] ∧ (Lit.int k z).wf = true
    | some .string => ∃ s : ByteArray, ds = [.str s] ∧ s.size ≤ maxLen
    | some (.slice e) => ∃ xs : List Dat, ds = [.list xs false] ∧ xs.length ≤ maxLen ∧ ∀ x ∈ xs, ∃ cs, fits P n e cs ∧ x = packD (aggT P e) cs
    | some (.struct fs) => fitsEach (fits P n) (fs.toList.map (·.type)) ds
    | some (.array m e) => fitsEach (fits P n) (List.replicate m e) ds
    | _ => False

section
variable {H : Type} {enc : TypeId × Value → H} {P : Program} {W : World} {M : Mem}

theorem Vl_len : ∀ {ds : List Dat} {cs : List Value}, Vl M ds cs → ds.length = cs.length
  | [], [], _ => rfl
  | _ :: _, _ :: _, h => by simp only [Vl] at h; simp [Vl_len h.2]
  | [], _ :: _, h => by simp [Vl] at h
  | _ :: _, [], h => by simp [Vl] at h
theorem Vl_app : ∀ {a b : List Dat} {x y : List Value}, Vl M a x → Vl M b y → Vl M (a ++ b) (x ++ y)
  | [], _, [], _, _, h => h
  | _ :: _, _, _ :: _, _, h, k => by simp only [Vl, List.cons_append] at h ⊢; exact ⟨h.1, Vl_app h.2 k⟩
  | [], _, _ :: _, _, h, _ => by simp [Vl] at h
  | _ :: _, _, [], _, h, _ => by simp [Vl] at h

/-- A value's cells, told as data. -/
def Told (P : Program) (M : Mem) (n : Nat) (t : TypeId) (cs : List Value) : Prop := ∃ ds, fits P n t ds ∧ Vl M ds cs ∧ ∀ v ∈ cs, flatV v

theorem told_pieces {n m : Nat} {cs : List Value} (hl : cs.length = m) : ∀ (ps : List (TypeId × Nat)) (o : Nat), tiles P m ps o = true → (∀ p ∈ ps, Told P M n p.1 ((cs.drop p.2).take (P.cellsOf p.1))) →
    ∃ ds, fitsEach (fits P n) (ps.map (·.1)) ds ∧ Vl M ds (cs.drop o) ∧ ∀ v ∈ cs.drop o, flatV v
  | [], o, ht, _ => by
    simp only [tiles, beq_iff_eq] at ht
    have : cs.drop o = [] := by rw [List.drop_eq_nil_iff]; omega
    rw [this]
    exact ⟨[], rfl, by simp [Vl], by simp⟩
  | p :: ps, o, ht, h => by
    simp only [tiles, Bool.and_eq_true, beq_iff_eq] at ht
    obtain ⟨rfl, ht⟩ := ht
    obtain ⟨a, h1, h2, h3⟩ := h p (by simp)
    obtain ⟨b, h4, h5, h6⟩ := told_pieces hl ps _ ht fun q hq => h q (by simp [hq])
    have e : cs.drop p.2 = (cs.drop p.2).take (P.cellsOf p.1) ++ cs.drop (p.2 + P.cellsOf p.1) := by
      rw [← List.drop_drop]; exact (List.take_append_drop _ _).symm
    refine ⟨a ++ b, ⟨a, b, rfl, h1, h4⟩, by rw [e]; exact Vl_app h2 h5, fun v hv => ?_⟩
    rw [e] at hv
    rcases List.mem_append.1 hv with hv | hv
    · exact h3 v hv
    · exact h6 v hv

theorem flat_of_one {v : Value} (h : flatV v) : v.cells = #[v] := by cases v <;> first | rfl | exact h.elim

theorem told_of_trod {ts : List TypeId} (hts : plainTs P ts = true) : ∀ (n : Nat) (t : TypeId) (cs : List Value) (x : DataW H × List MemPlace), t ∈ ts → DataW.trod enc P W 0 (fun _ => true) true n t cs = some x → Told P (Mem.start W) n t cs
  | 0, t, cs, x, _, h => by simp [DataW.trod] at h
  | n + 1, t, cs, x, ht, h => by
    have hp : plainT P ts t = true := List.all_eq_true.1 hts t ht
    have pieces : ∀ ps, piecesOf P t = some ps → (ps.all (fun p => ts.contains p.1) && tiles P (P.cellsOf t) ps 0) = true → cs.length = P.cellsOf t → (∀ p ∈ ps, ∃ y, DataW.trod enc P W 0 (fun _ => true) true n p.1 ((cs.drop p.2).take (P.cellsOf p.1)) = some y) →
        ∃ ds, fitsEach (fits P n) (ps.map (·.1)) ds ∧ Vl (Mem.start W) ds cs ∧ ∀ v ∈ cs, flatV v := by
      intro ps hps hck hl hy
      simp only [Bool.and_eq_true, List.all_eq_true, List.contains_iff_mem] at hck
      have := told_pieces (P := P) (M := Mem.start W) (n := n) hl ps 0 hck.2 (fun p hp => by
        obtain ⟨y, hy⟩ := hy p hp
        exact told_of_trod hts n _ _ y (hck.1 p hp) hy)
      simpa using this
    unfold plainT at hp
    split at hp
    · rename_i hu
      obtain ⟨b, rfl, _⟩ := DataW.trod_bool hu h
      exact ⟨[.bool b], by unfold fits; rw [hu]; exact ⟨b, rfl⟩, by simp [Vl, V], by simp [flatV]⟩
    · rename_i k hu
      obtain ⟨z, rfl, _, hw⟩ := DataW.trod_int hu h
      exact ⟨[.int k z], by unfold fits; rw [hu]; exact ⟨z, rfl, hw⟩, by simp [Vl, V], by simp [flatV]⟩
    · rename_i hu
      obtain ⟨s, rfl, _, hw⟩ := DataW.trod_string hu h
      exact ⟨[.str s], by unfold fits; rw [hu]; exact ⟨s, rfl, hw⟩, by simp [Vl, V], by simp [flatV]⟩
    · rename_i e hu
      simp only [Bool.and_eq_true, List.contains_iff_mem, bne_iff_ne, ne_eq] at hp
      obtain ⟨he, hk⟩ := hp
      rcases DataW.trod_slice hu h with ⟨rfl, _⟩ | ⟨a, len, cap, elems, rest, n', hn, rfl, _, _, hlc, hcm, hel, hget, hget2, _⟩
      · refine ⟨[.list [] false], by unfold fits; rw [hu]; exact ⟨[], rfl, by simp, by simp⟩, by simp only [Vl, V, and_true]; exact ⟨none, 0, 0, rfl, rfl, Nat.le_refl _, fun _ => rfl, .inl rfl⟩, by simp [flatV]⟩
      · cases hn
        -- the elements
        have each : ∀ i, i < len → ∃ x : Dat, (∃ cs, fits P n e cs ∧ x = packD (aggT P e) cs) ∧ ∃ v, V (Mem.start W) x v ∧ v.cells.size = P.cellsOf e ∧ (∀ c ∈ v.cells.toList, flatV c) ∧ ∀ j, j < P.cellsOf e → W.cell? ((a.add (i * P.cellsOf e)).add j) = v.cells[j]? := by
          intro i hi
          have h1 := hget i hi
          rw [List.getElem?_eq_getElem (by omega)] at h1
          obtain ⟨cs', h2, h3⟩ := Option.bind_eq_some_iff.1 h1
          obtain ⟨_, h4, h5⟩ := World.cells?_some h2
          obtain ⟨ds, g1, g2, g3⟩ := told_of_trod hts n e cs' _ he h3
          refine ⟨_, ⟨ds, g1, rfl⟩, ?_⟩
          cases hg : aggT P e with
          | true =>
            refine ⟨.agg cs'.toArray, ?_, ?_, ?_, fun j hj => ?_⟩
            · simp only [packD, cond_true, V]; exact ⟨_, rfl, by simpa using g2, by simpa using g3⟩
            · simp [Value.cells, h4]
            · simpa [Value.cells] using g3
            · simpa [Value.cells] using h5 j hj
          | false =>
            -- one cell
            have hone : ∃ d, ds = [d] := by
              have hpe := List.all_eq_true.1 hts e he
              cases n with
              | zero => simp [fits] at g1
              | succ n =>
                unfold plainT at hpe
                unfold fits at g1
                unfold aggT at hg
                split at g1 <;> rename_i hue
                · obtain ⟨b, rfl⟩ := g1; exact ⟨_, rfl⟩
                · obtain ⟨b, rfl, _⟩ := g1; exact ⟨_, rfl⟩
                · obtain ⟨b, rfl, _⟩ := g1; exact ⟨_, rfl⟩
                · obtain ⟨b, rfl, _⟩ := g1; exact ⟨_, rfl⟩
                · rw [hue] at hg; simp at hg
                · rw [hue] at hg; simp at hg
                · exact g1.elim
            obtain ⟨d, rfl⟩ := hone
            have hlen := Vl_len g2
            match cs', hlen, g2, g3, h4, h5 with
            | [v], _, g2, g3, h4, h5 =>
              simp only [Vl, and_true] at g2
              have hv := flat_of_one (g3 v (by simp))
              refine ⟨v, by simpa [packD] using g2, by rw [hv, ← h4]; rfl, by rw [hv]; simpa using g3, fun j hj => ?_⟩
              rw [hv]; simpa using h5 j hj
        obtain ⟨f, hf⟩ := Deep.choose_lt each
        refine ⟨[.list ((List.range len).map f) false], ?_, ?_, by simp [flatV]⟩
        · unfold fits; rw [hu]
          refine ⟨_, rfl, by simp; omega, fun x hx => ?_⟩
          obtain ⟨i, hi, rfl⟩ := List.mem_map.1 hx
          exact (hf i (List.mem_range.1 hi)).1
        · simp only [Vl, and_true, V]
          refine ⟨some a, len, cap, rfl, by simp, hlc, fun e => by simp at e, ?_⟩
          rcases Nat.eq_zero_or_pos cap with hc | hc
          · exact .inl hc
          · right
            -- something is read: the place is a plain one
            have hsp : a.spot = none := by
              have h0 : ∃ cs', W.cells? 0 a (P.cellsOf e) = some cs' := by
                rcases Nat.eq_zero_or_pos len with hl | hl
                · subst hl
                  have h1 := (hget2 rfl).2 0 (by omega)
                  rw [List.getElem?_eq_getElem (by have := (hget2 rfl).1; omega)] at h1
                  obtain ⟨cs', h2, _⟩ := Option.bind_eq_some_iff.1 h1
                  exact ⟨cs', by simpa [Addr.add] using h2⟩
                · have h1 := hget 0 hl
                  rw [List.getElem?_eq_getElem (by omega)] at h1
                  obtain ⟨cs', h2, _⟩ := Option.bind_eq_some_iff.1 h1
                  exact ⟨cs', by simpa [Addr.add] using h2⟩
              obtain ⟨cs', h2⟩ := h0
              obtain ⟨_, h4, h5⟩ := World.cells?_some h2
              have h6 := h5 0 (by omega)
              rw [List.getElem?_eq_getElem (by omega)] at h6
              simp only [Addr.add, if_true] at h6
              unfold World.cell? at h6
              split at h6
              · split at h6
                · simp at h6
                · rename_i hh; simpa using hh
              · simp at h6
            obtain ⟨b, o, sp⟩ := a
            simp only at hsp; subst hsp
            refine ⟨b, o, P.cellsOf e, rfl, ?_⟩
            refine Vs_of fun i x hi => ?_
            have hil : i < len := by
              rcases Nat.lt_or_ge i len with h | h
              · exact h
              · rw [List.getElem?_eq_none (by simpa using h)] at hi; simp at hi
            simp [hil] at hi
            subst hi
            obtain ⟨_, v, h1, h2, h3, h4⟩ := hf i hil
            refine ⟨v, h1, h2, h3, fun j hj => ?_⟩
            rw [← h4 j hj, Deep.add_add]
            simp only [Mem.start, Addr.add]
            by_cases e0 : i * P.cellsOf e + j = 0
            · rw [if_pos e0]; congr 2; omega
            · rw [if_neg e0]; congr 2; omega
    · rename_i fs hu
      obtain ⟨xs, n', hn, _, hl, hxl, hx⟩ := DataW.trod_struct hu h
      cases hn
      have hpo : piecesOf P t = some (fs.toList.map fun f => (f.type, f.offset)) := by unfold piecesOf; rw [hu]
      rw [hpo] at hp
      obtain ⟨ds, h1, h2, h3⟩ := pieces _ hpo hp hl (fun p hp => by
        obtain ⟨f, hf, rfl⟩ := List.mem_map.1 hp
        obtain ⟨i, hi, rfl⟩ := List.getElem_of_mem hf
        have := hx i fs[i] (by simp at hi; simp [hi])
        rw [List.getElem?_eq_getElem (by simp at hi; omega)] at this
        exact ⟨_, this⟩)
      refine ⟨ds, ?_, h2, h3⟩
      unfold fits; rw [hu]; simpa [Function.comp_def] using h1
    · rename_i m e hu
      have hpo : piecesOf P t = some ((List.range m).map fun i => (e, i * P.cellsOf e)) := by unfold piecesOf; rw [hu]
      rw [hpo] at hp
      rw [DataW.trod_step] at h
      unfold DataW.trodStep at h
      rw [hu] at h
      have hl : cs.length = P.cellsOf t ∧ ∃ xs : List (DataW H × List MemPlace), ((List.range m).mapM fun i => DataW.trod enc P W 0 (fun _ => true) true n e ((cs.drop (i * P.cellsOf e)).take (P.cellsOf e))) = some xs := by
        split at h <;> simp_all
        obtain ⟨hl, xs, hp, _⟩ := h
        exact ⟨xs, hp⟩
      obtain ⟨hl, xs, hxs⟩ := hl
      obtain ⟨ds, h1, h2, h3⟩ := pieces _ hpo hp hl (fun p hp => by
        obtain ⟨i, hi, rfl⟩ := List.mem_map.1 hp
        have hi := List.mem_range.1 hi
        have h1 := mapM_some_get hxs i i (by simp [hi])
        have h2 := mapM_some_length hxs
        simp at h2
        rw [List.getElem?_eq_getElem (by omega)] at h1
        exact ⟨_, h1⟩)
      refine ⟨ds, ?_, h2, h3⟩
      unfold fits; rw [hu]; simpa [Function.comp_def, List.map_const'] using h1
    · simp at hp


/-- Arguments of plain types. -/
def fitArgs (P : Program) : List TypeId → List D → Prop
  | [], ds => ds = []
  | t :: ts, ds => ∃ n cs r, ds = .dat (packD (aggT P t) cs) :: r ∧ fits P n t cs ∧ fitArgs P ts r

theorem told_one {n : Nat} {t : TypeId} {v : Value} {ds : List Dat} (hok : Value.okWide P W .any 0 t v) (h1 : fits P n t ds) (h2 : Vl M ds v.cells.toList) (h3 : ∀ c ∈ v.cells.toList, flatV c) : V M (packD (aggT P t) ds) v := by
  cases n with
  | zero => simp [fits] at h1
  | succ n =>
    have one : ∀ {d : Dat} {v : Value}, flatV v → Vl M [d] v.cells.toList → V M d v := by
      intro d v hv h
      rw [flat_of_one hv] at h
      simpa [Vl] using h
    unfold fits at h1
    unfold aggT
    split at h1 <;> rename_i hu
    · obtain ⟨b, rfl⟩ := h1; obtain ⟨c, rfl⟩ := okWide_bool hu hok; rw [hu]; exact one (by simp [flatV]) h2
    · obtain ⟨b, rfl, _⟩ := h1; obtain ⟨c, rfl⟩ := okWide_int hu hok; rw [hu]; exact one (by simp [flatV]) h2
    · obtain ⟨b, rfl, _⟩ := h1; obtain ⟨c, rfl⟩ := okWide_string hu hok; rw [hu]; exact one (by simp [flatV]) h2
    · obtain ⟨b, rfl, _⟩ := h1; obtain ⟨c, l, q, rfl⟩ := okWide_slice hu hok; rw [hu]; exact one (by simp [flatV]) h2
    · obtain ⟨cs, rfl, _⟩ := okWide_struct hu hok
      rw [hu]
      simp only [packD, cond_true, V]
      exact ⟨cs, rfl, h2, h3⟩
    · obtain ⟨cs, rfl, _⟩ : ∃ cs, v = .agg cs ∧ cs.size = P.cellsOf t := by
        unfold Value.okWide at hok
        rw [hu] at hok
        obtain ⟨cs, e1, e2, _⟩ := hok
        exact ⟨cs, e1, e2⟩
      rw [hu]
      simp only [packD, cond_true, V]
      exact ⟨cs, rfl, h2, h3⟩
    · exact h1.elim

theorem told_args {ts : List TypeId} (hts : plainTs P ts = true) : ∀ (ps : List TypeId) (vs : List Value) (ds : List (DataW H)) (pl : List MemPlace), (∀ t ∈ ps, t ∈ ts) → (∀ (j : Nat) t v, ps[j]? = some t → vs[j]? = some v → Value.okWide P W .any 0 t v) →
    DataW.TrodAll enc P W 0 (fun _ => true) true ps vs ds pl → ∃ Ds, fitArgs P ps Ds ∧ VDl (Mem.start W) Ds vs
  | [], vs, ds, pl, _, _, h => by
    obtain ⟨rfl, _, _⟩ := trodAll_nil h
    exact ⟨[], rfl, by simp [VDl]⟩
  | t :: ps, vs, ds, pl, hm, hok, h => by
    obtain ⟨v, vs', d, ds', p, q, rfl, rfl, rfl, ⟨n, h1⟩, h2⟩ := trodAll_cons h
    obtain ⟨Ds, h3, h4⟩ := told_args hts ps vs' ds' q (fun t ht => hm t (by simp [ht])) (fun j t v h1 h2 => hok (j + 1) t v (by simpa using h1) (by simpa using h2)) h2
    obtain ⟨cs, g1, g2, g3⟩ := told_of_trod hts n t _ _ (hm t (by simp)) h1
    exact ⟨_, ⟨n, cs, Ds, rfl, g1, h3⟩, by simp only [VDl, VD]; exact ⟨told_one (hok 0 t v rfl rfl) g1 g2 g3, h4⟩⟩

/-- The arguments read behind the call as they did before. -/
theorem args_behind (hl : laidOutB P = true) {W' : World} (hb : Below W.heap.size W W') : ∀ (ps : List TypeId) (vs : List Value) (ds : List (DataW H)) (pl : List MemPlace), (∀ t ∈ ps, P.readableRec t = true ∧ t < P.types.size) →
    DataW.TrodAll enc P W 0 (fun _ => true) true ps vs ds pl → ∃ pl', DataW.TrodAll enc P W' 0 (fun b => decide (b < W.heap.size)) true ps vs ds pl'
  | [], vs, ds, pl, _, h => by
    obtain ⟨rfl, rfl, _⟩ := trodAll_nil h
    exact ⟨[], rfl⟩
  | t :: ps, vs, ds, pl, hm, h => by
    obtain ⟨v, vs', d, ds', p, q, rfl, rfl, rfl, h1, h2⟩ := trodAll_cons h
    obtain ⟨q', h3⟩ := args_behind hl hb ps vs' ds' q (fun t ht => hm t (by simp [ht])) h2
    have lt : ∀ x ∈ p, x.block < W.heap.size := by obtain ⟨m, hm⟩ := h1; exact DataW.trod_lt m _ _ _ hm
    exact ⟨_, trodAll_cons_mk (Below.trod hl (hm t (by simp)).1 (hm t (by simp)).2 h1 hb lt) h3⟩
end

/-- A statement's function that returns true, in the layer: its row. -/
theorem lifted_of {C : Checked} {c : Cfg} (hc : CfgOk C.prog c) (hmix : C.prog.follows .mixedOrders = true) {f : FuncId} {fn : Func} {ir : FnIR} (hir : FnOk C.prog c f ir) {s : ChangeSpec} {os : Os} {H : Type} {enc : TypeId × Value → H} {a : Assume} {conds : List PathCond} {apart fresh handsOn : Bool}
    (own : ownKnob C.prog.godebug = none) (started : os.Started) (noInit : C.prog.inits.idxOf? f = none) (hfn : C.prog.funcs[f]? = some fn)
    (witness : ∃ (w : World) (tape : Tape) (i : Input), w.os = os ∧ (w.forCall tape i).Shaped C.prog ∧ i.vars = [] ∧ Input.okWide C.prog (w.forCall tape i) .any w.heap.size f i ∧
      s.pre6 enc C.prog fn conds apart (w.forCall tape i).memory i.args ∧ a.holds C.prog (lone (Frame.enter C.prog f i.args .normal) [] (w.forCall tape i)))
    {ts : List TypeId} (hts : plainTs C.prog ts = true) (hps : fn.params.toList.all (fun t => ts.contains t && C.prog.readableRec t && decide (t < C.prog.types.size)) = true) (hlaid : laidOutB C.prog = true)
    {rt : TypeId} (hres : fn.resultTypes = #[rt]) (hrt : C.prog.underlying rt = some .bool) (hvars : s.vars = []) (hspec : ∀ (H : Type) (ds : List (DataW H)), ds.length = fn.params.size → s.fn H ds = { results := [.lit (.bool true)], args := ds })
    (run : ∀ (W : World) (Ds : List D), fitArgs C.prog fn.params.toList Ds → Ds.length ≤ ir.nt ∧ ∀ ℓ, wp (Ctx.start C.prog W) ℓ ir.body ⟨argSlots 0 Ds, [], fun _ => none, 0, []⟩ (fnK ir.res (fun r _ => r = .ret (.dat (.bool true))))) :
    ReturnsInHanded a C os f .any (s.pre6 enc C.prog fn conds apart) (s.post enc C.prog fn apart fresh handsOn false) := by
  refine returnsInHanded_of_change_sized own started noInit hfn witness ?_
  intro W base args ds gs before hval hW hcnd hsz _
  have hW' := hW
  obtain ⟨p, q, hA, hV, rfl, hfz, hnd⟩ := hW
  rw [hvars] at hV
  obtain ⟨rfl, rfl⟩ := trodVars_none hV
  have hps' : ∀ t ∈ fn.params.toList, t ∈ ts ∧ C.prog.readableRec t = true ∧ t < C.prog.types.size := by
    intro t ht
    have := List.all_eq_true.1 hps t ht
    simp only [Bool.and_eq_true, List.contains_iff_mem, decide_eq_true_eq] at this
    exact ⟨this.1.1, this.1.2, this.2⟩
  have hval0 : ∀ (j : Nat) t v, fn.params.toList[j]? = some t → args.toList[j]? = some v → Value.okWide C.prog W .any 0 t v := fun j t v h1 h2 => by
    have := hval j t v (by simpa using h1) (by simpa using h2)
    exact this
  obtain ⟨Ds, hD, hVD⟩ := told_args hts fn.params.toList args.toList ds p (fun t ht => (hps' t ht).1) hval0 hA
  obtain ⟨hlen, hwp⟩ := run W Ds hD
  obtain ⟨fn', body, h1, h2, h3, h4, h5, h6, h7⟩ := hir.ok
  rw [hfn] at h1; cases h1
  have hn : ds.length = fn.params.size := by
    have : ∀ (ps : List TypeId) (vs : List Value) (ds : List (DataW H)) (pl : List MemPlace), DataW.TrodAll enc C.prog W 0 (fun _ => true) true ps vs ds pl → ds.length = ps.length := by
      intro ps
      induction ps with
      | nil => intro vs ds pl h; obtain ⟨_, rfl, _⟩ := trodAll_nil h; rfl
      | cons t ps ih => intro vs ds pl h; obtain ⟨v, vs', d, ds', p, q, rfl, rfl, rfl, _, h2⟩ := trodAll_cons h; simp [ih _ _ _ h2]
    simpa using this _ _ _ _ hA
  have key := callsF (C := Ctx.start C.prog W) (c := c) hc hfn h3 (sound_all hc hmix body) h4 (by rw [h7]; exact h5) (args := Ds) (by rw [h7]; exact hlen) (Q := fun r _ => r = .ret (.dat (.bool true))) (fun d S' e => by cases e) (by rw [h6]; exact hwp) (RS.start C.prog W) hVD
  have e : args.toList.toArray = args := by simp
  rw [e] at key
  refine key.mono fun e W' ⟨v, M', g', d, S', he, hrs, hv, hd⟩ => ?_
  cases hd
  simp only [VD, V] at hv
  subst hv; subst he
  have hlow : Below W.heap.size W W' := hrs.low
  obtain ⟨pa, hback⟩ := args_behind hlaid hlow fn.params.toList args.toList ds p (fun t ht => (hps' t ht).2) hA
  have hsp := hspec H (ds ++ []) (by simpa using hn)
  refine ⟨_, rfl, ds, [], p ++ [], [], pa, [], hW', ?_, ?_, ?_, hlow.frame _, fun h => by cases h⟩
  · rw [hsp, hres]
    exact trodAll_mk1 (shut_bool hrt _)
  · rw [hsp]; simpa using hback
  · rw [hvars, hsp]; rfl

/-! ### What fits, opened -/
section
variable {P : Program} {n : Nat} {t : TypeId} {ds : List Dat}
theorem fits_bool (hu : P.underlying t = some .bool) (h : fits P n t ds) : ∃ b, ds = [.bool b] := by
  cases n with
  | zero => exact h.elim
  | succ n => unfold fits at h; rw [hu] at h; exact h
theorem fits_int {k : IntKind} (hu : P.underlying t = some (.int k)) (h : fits P n t ds) : ∃ z, ds = [.int k z] ∧ (Lit.int k z).wf = true := by
  cases n with
  | zero => exact h.elim
  | succ n => unfold fits at h; rw [hu] at h; exact h
theorem fits_string (hu : P.underlying t = some .string) (h : fits P n t ds) : ∃ s : ByteArray, ds = [.str s] ∧ s.size ≤ maxLen := by
  cases n with
  | zero => exact h.elim
  | succ n => unfold fits at h; rw [hu] at h; exact h
theorem fits_struct {fs : Array Field} (hu : P.underlying t = some (.struct fs)) (ts : List TypeId) (hts : fs.toList.map (·.type) = ts) (h : fits P n t ds) : ∃ m, n = m + 1 ∧ fitsEach (fits P m) ts ds := by
  cases n with
  | zero => exact h.elim
  | succ n => unfold fits at h; rw [hu] at h; exact ⟨n, rfl, by rw [← hts]; exact h⟩
theorem fits_array {m : Nat} {e : TypeId} (hu : P.underlying t = some (.array m e)) (h : fits P n t ds) : ∃ q, n = q + 1 ∧ fitsEach (fits P q) (List.replicate m e) ds := by
  cases n with
  | zero => exact h.elim
  | succ n => unfold fits at h; rw [hu] at h; exact ⟨n, rfl, h⟩
theorem list_of {α : Type} {enc : α → Dat} {R : α → Prop} : ∀ {xs : List Dat}, (∀ x ∈ xs, ∃ a, x = enc a ∧ R a) → ∃ l : List α, xs = l.map enc ∧ ∀ a ∈ l, R a
  | [], _ => ⟨[], rfl, by simp⟩
  | x :: xs, h => by
    obtain ⟨a, rfl, hr⟩ := h x (by simp)
    obtain ⟨l, rfl, hl⟩ := list_of (xs := xs) fun y hy => h y (by simp [hy])
    exact ⟨a :: l, rfl, fun b hb => by rcases List.mem_cons.1 hb with rfl | hb; exact hr; exact hl b hb⟩
theorem agg_of_none (h : ∀ fs, P.underlying t ≠ some (.struct fs)) (h' : ∀ m e, P.underlying t ≠ some (.array m e)) : aggT P t = false := by
  unfold aggT; split
  · rename_i e; exact absurd e (h _)
  · rename_i e; exact absurd e (h' _ _)
  · rfl
theorem agg_int {k : IntKind} (hu : P.underlying t = some (.int k)) : aggT P t = false := agg_of_none (by rw [hu]; simp) (by rw [hu]; simp)
theorem agg_bool (hu : P.underlying t = some .bool) : aggT P t = false := agg_of_none (by rw [hu]; simp) (by rw [hu]; simp)
theorem agg_string (hu : P.underlying t = some .string) : aggT P t = false := agg_of_none (by rw [hu]; simp) (by rw [hu]; simp)
theorem agg_slice {e : TypeId} (hu : P.underlying t = some (.slice e)) : aggT P t = false := agg_of_none (by rw [hu]; simp) (by rw [hu]; simp)
theorem agg_struct {fs : Array Field} (hu : P.underlying t = some (.struct fs)) : aggT P t = true := by unfold aggT; rw [hu]
theorem agg_array {m : Nat} {e : TypeId} (hu : P.underlying t = some (.array m e)) : aggT P t = true := by unfold aggT; rw [hu]
/-- A slice of things. -/
theorem fits_slice {e : TypeId} (hu : P.underlying t = some (.slice e)) (h : fits P n t ds) {α : Type} {enc : α → Dat} {R : α → Prop} (each : ∀ m cs, n = m + 1 → fits P m e cs → ∃ a, packD (aggT P e) cs = enc a ∧ R a) :
    ∃ l : List α, ds = [.list (l.map enc) false] ∧ l.length ≤ maxLen ∧ ∀ a ∈ l, R a := by
  cases n with
  | zero => exact h.elim
  | succ n =>
    unfold fits at h; rw [hu] at h
    obtain ⟨xs, rfl, hl, hx⟩ := h
    obtain ⟨l, rfl, hr⟩ := list_of (enc := enc) (R := R) (xs := xs) fun x hm => by
      obtain ⟨ds, h1, rfl⟩ := hx x hm
      exact each n ds rfl h1
    exact ⟨l, rfl, by simpa using hl, hr⟩
/-- A number in its bounds. -/
def In64 (n : Int) : Prop := -9223372036854775808 ≤ n ∧ n ≤ 9223372036854775807
theorem In64.of {z : Int} (h : (Lit.int .i64 z).wf = true) : In64 z := by
  simp [Lit.wf, IntKind.min, IntKind.max, IntKind.signed, IntKind.bits] at h
  exact h
end
end Go.Abs

/- Chapter 53: the arguments of its statements as data. No conditions. -/
namespace Go.Abs.P
open Go.Proofs
theorem own53 : ownKnob Try.prog.godebug = none := by kernel_rfl
theorem laid53 : laidOutB Try.prog = true := by kernel_rfl
def plain53 : List TypeId := [3, 4, 5, 22, 23, 40, 42]
theorem plain53_ok : plainTs Try.prog plain53 = true := by kernel_rfl

theorem fit_int {n : Nat} {cs : List Dat} (h : fits Try.prog n 3 cs) : ∃ z, cs = [I z] ∧ In64 z := by
  obtain ⟨z, h1, h2⟩ := fits_int Try.underlying3 h
  exact ⟨z, h1, .of h2⟩
theorem fit_num {n : Nat} {cs : List Dat} (h : fits Try.prog n 3 cs) : ∃ z, packD (aggT Try.prog 3) cs = I z ∧ In64 z := by
  obtain ⟨z, rfl, hz⟩ := fit_int h
  exact ⟨z, by rw [agg_int Try.underlying3]; rfl, hz⟩
def Budget.ok (b : Budget) : Prop := In64 b.no ∧ In64 b.at_ ∧ In64 b.known ∧ In64 b.kind ∧ In64 b.period ∧ In64 b.count ∧ In64 b.value
def Use.ok (b : Use) : Prop := In64 b.doc ∧ In64 b.kind ∧ In64 b.value ∧ In64 b.at_ ∧ In64 b.known
theorem fit_budget {n : Nat} {cs : List Dat} (h : fits Try.prog n 40 cs) : ∃ b : Budget, packD (aggT Try.prog 40) cs = b.enc ∧ b.ok := by
  obtain ⟨m, _, k⟩ := fits_struct Try.underlying40 [3, 3, 3, 3, 3, 3, 3, 4] rfl h
  simp only [fitsEach] at k
  obtain ⟨_, _, rfl, h0, _, _, rfl, h1, _, _, rfl, h2, _, _, rfl, h3, _, _, rfl, h4, _, _, rfl, h5, _, _, rfl, h6, _, _, rfl, h7, rfl⟩ := k
  obtain ⟨a0, rfl, g0⟩ := fit_int h0
  obtain ⟨a1, rfl, g1⟩ := fit_int h1
  obtain ⟨a2, rfl, g2⟩ := fit_int h2
  obtain ⟨a3, rfl, g3⟩ := fit_int h3
  obtain ⟨a4, rfl, g4⟩ := fit_int h4
  obtain ⟨a5, rfl, g5⟩ := fit_int h5
  obtain ⟨a6, rfl, g6⟩ := fit_int h6
  obtain ⟨a7, rfl⟩ := fits_bool Try.underlying4 h7
  exact ⟨⟨a0, a1, a2, a3, a4, a5, a6, a7⟩, by rw [agg_struct Try.underlying40]; rfl, g0, g1, g2, g3, g4, g5, g6⟩
theorem fit_use {n : Nat} {cs : List Dat} (h : fits Try.prog n 42 cs) : ∃ b : Use, packD (aggT Try.prog 42) cs = b.enc ∧ b.ok := by
  obtain ⟨m, _, k⟩ := fits_struct Try.underlying42 [3, 3, 3, 3, 3] rfl h
  simp only [fitsEach] at k
  obtain ⟨_, _, rfl, h0, _, _, rfl, h1, _, _, rfl, h2, _, _, rfl, h3, _, _, rfl, h4, rfl⟩ := k
  obtain ⟨a0, rfl, g0⟩ := fit_int h0
  obtain ⟨a1, rfl, g1⟩ := fit_int h1
  obtain ⟨a2, rfl, g2⟩ := fit_int h2
  obtain ⟨a3, rfl, g3⟩ := fit_int h3
  obtain ⟨a4, rfl, g4⟩ := fit_int h4
  exact ⟨⟨a0, a1, a2, a3, a4⟩, by rw [agg_struct Try.underlying42]; rfl, g0, g1, g2, g3, g4⟩
theorem fit_budgets {n : Nat} {cs : List Dat} (h : fits Try.prog n 22 cs) : ∃ l : List Budget, packD (aggT Try.prog 22) cs = .list (l.map Budget.enc) false ∧ l.length ≤ maxLen ∧ ∀ b ∈ l, b.ok := by
  obtain ⟨l, rfl, h1, h2⟩ := fits_slice Try.underlying22 h fun m cs _ h => fit_budget h
  exact ⟨l, by rw [agg_slice Try.underlying22]; rfl, h1, h2⟩
theorem fit_uses {n : Nat} {cs : List Dat} (h : fits Try.prog n 23 cs) : ∃ l : List Use, packD (aggT Try.prog 23) cs = .list (l.map Use.enc) false ∧ l.length ≤ maxLen ∧ ∀ b ∈ l, b.ok := by
  obtain ⟨l, rfl, h1, h2⟩ := fits_slice Try.underlying23 h fun m cs _ h => fit_use h
  exact ⟨l, by rw [agg_slice Try.underlying23]; rfl, h1, h2⟩
theorem fit_u8 {n : Nat} {cs : List Dat} (h : fits Try.prog n 5 cs) : ∃ z : Nat, packD (aggT Try.prog 5) cs = .int .u8 z ∧ z < 256 := by
  obtain ⟨z, rfl, h2⟩ := fits_int Try.underlying5 h
  simp [Lit.wf, IntKind.min, IntKind.max, IntKind.signed, IntKind.bits] at h2
  refine ⟨z.toNat, ?_, by omega⟩
  rw [agg_int Try.underlying5, Int.toNat_of_nonneg h2.1]; rfl
end Go.Abs.P

/- Chapter 53: the statements' guard. No conditions. -/
namespace Go.Abs.P
open Go.Proofs
set_option maxRecDepth 10000
variable {C : Ctx}

def right53 (l : List Budget) (u : List Use) (ts : List Int) : Bool := ts.all isTime && (decide (l.length ≤ 20) && decide (u.length ≤ 20) && decide (examine l u = 0))

theorem right53_ok (h : In C) (l : List Budget) (u : List Use) (ts : List Int) (hts : ts.length < 2 ^ 62) : CallV C (.dat (.fn law53_right_id [] [])) [.dat (.list (l.map Budget.enc) false), .dat (.list (u.map Use.enc) false), .dat (.list (ts.map I) false)] noneF (Gives (.dat (.bool (right53 l u ts)))) := by
  refine h.call law53_right_ok (Nat.le_of_ble_eq_true rfl) fun ℓ hS _ => ?_
  unfold law53_right
  simp +contextual -implicitDefEqProofs only [go_sem]
  refine LoopW.up (some ([0, 1, 9, 10, 11], [])) (fun i s => ∃ n, s = ⟨[(0, .dat (.list (l.map Budget.enc) false)), (1, .dat (.list (u.map Use.enc) false)), (9, .dat (.list (ts.map I) false)), (10, .dat (I ts.length)), (11, .dat (I i))], [], noneF, n, []⟩ ∧ ts.all isTime = (ts.drop i).all isTime) ts.length ?_ ?_
  · simp only [go_sem]
    exact ⟨0, rfl⟩
  · rintro i hi s ⟨n, rfl, hall⟩
    unfold law53_right_l0
    simp only [go_sem]
    constructor
    · intro h1
      have h' : i < ts.length := by simpa using h1
      have hx := List.getElem?_eq_getElem h'
      have hd := List.drop_eq_getElem_cons h'
      generalize ts[i] = x at hx hd
      have hw : IntKind.i64.wrap ((i : Int) + 1) = ((i + 1 : Nat) : Int) := wrap_in (by omega)
      rw [hd, List.all_cons] at hall
      simp +contextual -implicitDefEqProofs only [go_sem, hx, hw]
      refine CallX.plain (Time53_ok h x) ?_
      simp +contextual -implicitDefEqProofs only [go_sem, hw]
      constructor
      · intro h2
        exact ⟨h', n, rfl, by rw [hall, h2]; rfl⟩
      · intro h2
        refine RetNow.gives (.inr ?_)
        simp only [right53, hall, h2]; rfl
    · intro h1
      have hr : ts.all isTime = true := by rw [hall, List.drop_eq_nil_of_le (by simpa using h1)]; rfl
      clear h1 hi
      have e1 : decide ((l.length : Int) ≤ 20) = decide (l.length ≤ 20) := by rw [decide_eq_decide]; omega
      have e2 : decide ((u.length : Int) ≤ 20) = decide (u.length ≤ 20) := by rw [decide_eq_decide]; omega
      cases g1 : decide (l.length ≤ 20) <;> cases g2 : decide (u.length ≤ 20)
      all_goals
        simp +contextual -implicitDefEqProofs only [go_sem, e1, e2, g1, g2]
      case true.true =>
        refine CallX.plain (Error53_ok h l u) ?_
        simp +contextual -implicitDefEqProofs only [go_sem]
        refine RetNow.gives (.inr ?_)
        simp [right53, hr, g1, g2]
      all_goals
        refine RetNow.gives (.inr ?_)
        simp [right53, hr, g1, g2]
end Go.Abs.P

/- Chapter 53: the plain law of AccountsKnown: what becomes known later, and the order of the uses, do not matter. No conditions. -/
namespace Go.Abs.P

def rot (t : Nat) (u : List Use) : List Use := (List.range u.length).map fun i => u[(i + t) % u.length]!
theorem mod_add {i t n : Nat} (hi : i < n) : (i + t) % n = if i + t % n < n then i + t % n else i + t % n - n := by
  have hk := Nat.mod_lt t (show 0 < n by omega)
  rw [Nat.add_mod, Nat.mod_eq_of_lt hi]
  split
  · exact Nat.mod_eq_of_lt (by assumption)
  · rw [Nat.mod_eq_sub_mod (by omega)]; exact Nat.mod_eq_of_lt (by omega)
theorem rot_eq (t : Nat) (u : List Use) : rot t u = u.drop (t % u.length) ++ u.take (t % u.length) := by
  cases u with
  | nil => simp [rot]
  | cons x u =>
    generalize hv : x :: u = v
    have hp : 0 < v.length := by rw [← hv]; simp
    have hk := Nat.mod_lt t hp
    apply List.ext_getElem?
    intro i
    unfold rot
    rw [List.getElem?_map]
    by_cases hi : i < v.length
    · rw [List.getElem?_range hi]
      simp only [Option.map_some]
      rw [mod_add hi]
      generalize t % v.length = k at hk
      split
      · rw [List.getElem?_append_left (by simp; omega), List.getElem?_drop, List.getElem!_eq_getElem?_getD, Nat.add_comm k i, List.getElem?_eq_getElem (by omega)]; simp
      · rw [List.getElem?_append_right (by simp; omega), List.length_drop, List.getElem?_take, if_pos (by omega), List.getElem!_eq_getElem?_getD,
          show i - (v.length - k) = i + k - v.length by omega, List.getElem?_eq_getElem (by omega)]; simp
    · rw [List.getElem?_eq_none (by simp; omega), List.getElem?_eq_none (by simp; omega)]; rfl
theorem rot_perm (t : Nat) (u : List Use) : (rot t u).Perm u := by
  rw [rot_eq]
  have := List.perm_append_comm (l₁ := u.drop (t % u.length)) (l₂ := u.take (t % u.length))
  rwa [List.take_append_drop] at this

theorem sorted_ext {a b : List Int} (ha : a.Pairwise (· < ·)) (hb : b.Pairwise (· < ·)) (h : ∀ k, k ∈ a ↔ k ∈ b) : a = b := by
  have n : a.Nodup := ha.imp fun h => by omega
  rw [← sort_to h n hb, sort_to (fun k => Iff.rfl) n ha]

theorem chkFrom_iff : ∀ (l : List Budget) (k : Int), chkFrom k l = 0 ↔ (∀ x ∈ l, x.right = true ∧ k < x.no) ∧ l.Pairwise fun a b => a.no < b.no
  | [], k => by simp [chkFrom]
  | x :: l, k => by
    have ih := chkFrom_iff l x.no
    rw [chkFrom_cons, List.pairwise_cons]
    constructor
    · intro h
      split at h
      · rename_i hc
        simp only [Bool.and_eq_true, decide_eq_true_eq] at hc
        obtain ⟨h1, h2⟩ := ih.1 h
        refine ⟨fun y hy => ?_, fun y hy => (h1 y hy).2, h2⟩
        rcases List.mem_cons.1 hy with rfl | hy
        · exact hc
        · have := h1 y hy; exact ⟨this.1, by omega⟩
      · simp at h
    · rintro ⟨h1, h2, h3⟩
      have hx := h1 x (by simp)
      rw [if_pos (by simp [hx])]
      exact ih.2 ⟨fun y hy => ⟨(h1 y (by simp [hy])).1, h2 y hy⟩, h3⟩
theorem checkB_sub {l k : List Budget} (h : checkB l = 0) (hs : k.Sublist l) : checkB k = 0 := by
  have hl := checkB_len h
  have := hs.length_le
  unfold checkB at h ⊢
  rw [if_neg (by omega)] at h ⊢
  obtain ⟨h1, h2⟩ := (chkFrom_iff l _).1 h
  exact (chkFrom_iff k _).2 ⟨fun x hx => h1 x (hs.subset hx), h2.sublist hs⟩
theorem usesFrom_iff : ∀ (u : List Use) (met : List Int), met.Nodup → (usesFrom met u = true ↔ (∀ x ∈ u, x.fits = true) ∧ (met ++ u.map (·.doc)).Nodup)
  | [], met, hm => by simp [usesFrom, hm]
  | x :: u, met, hm => by
    rw [usesFrom_cons]
    simp only [Bool.and_eq_true, Bool.not_eq_true', List.contains_eq_mem, decide_eq_false_iff_not]
    constructor
    · rintro ⟨⟨h1, h2⟩, h3⟩
      have hm' : (met ++ [x.doc]).Nodup := by
        rw [List.nodup_append]; exact ⟨hm, by simp, fun a ha b hb => by simp at hb; subst hb; intro e; subst e; exact h2 ha⟩
      obtain ⟨h4, h5⟩ := (usesFrom_iff u _ hm').1 h3
      refine ⟨fun y hy => ?_, by simpa using h5⟩
      rcases List.mem_cons.1 hy with rfl | hy
      · exact h1
      · exact h4 y hy
    · rintro ⟨h1, h2⟩
      have h2' : ((met ++ [x.doc]) ++ u.map (·.doc)).Nodup := by simpa using h2
      have hm' := (List.nodup_append.1 h2').1
      refine ⟨⟨h1 x (by simp), fun hx => ?_⟩, (usesFrom_iff u _ hm').2 ⟨fun y hy => h1 y (by simp [hy]), h2'⟩⟩
      exact (List.nodup_append.1 hm').2.2 _ hx _ (by simp) rfl
/-- Fewer budgets, fewer uses, in any order: right, too. -/
theorem examine_less {l k : List Budget} {u v w : List Use} (h : examine l u = 0) (hk : k.Sublist l) (hp : v.Perm u) (hw : w.Sublist v) : examine k w = 0 := by
  obtain ⟨h1, h2, h3⟩ := examine_parts h
  obtain ⟨h4, h5⟩ := (usesFrom_iff u [] (by simp)).1 h3
  have hl := hw.length_le
  have hpl := hp.length_eq
  unfold examine
  rw [if_neg (by rw [checkB_sub h1 hk]; simp), if_neg (by omega), if_pos]
  refine (usesFrom_iff w [] (by simp)).2 ⟨fun x hx => h4 x (hp.mem_iff.1 (hw.subset hx)), ?_⟩
  rw [List.nil_append] at h5 ⊢
  exact (hw.map _).nodup ((hp.map _).nodup_iff.2 h5)

theorem total_perm {a b : List Use} (h : a.Perm b) : total a = total b := by
  unfold total
  induction h with
  | nil => rfl
  | cons x _ ih => simp [ih]
  | swap x y l => simp; omega
  | trans _ _ ih1 ih2 => exact ih1.trans ih2
theorem spentOf_perm {b : Budget} {u v : List Use} {known t : Int} (h : v.Perm u) : spentOf ⟨b, v.filter (fun x => decide (x.known ≤ known)), known⟩ t = spentOf ⟨b, u, known⟩ t := by
  rw [spentOf_eq ⟨b, u, known⟩ t _ rfl, spentOf_eq ⟨b, v.filter (fun x => decide (x.known ≤ known)), known⟩ t _ rfl]
  have hp : (((v.filter (fun x => decide (x.known ≤ known))).filter (counts ⟨b, v.filter (fun x => decide (x.known ≤ known)), known⟩ (IntKind.i64.wrap (t.tdiv b.period)))).filter fun x => decide (x.at_ ≤ t)).Perm
      ((u.filter (counts ⟨b, u, known⟩ (IntKind.i64.wrap (t.tdiv b.period)))).filter fun x => decide (x.at_ ≤ t)) := by
    refine List.Perm.filter _ ?_
    rw [List.filter_filter]
    have e : (fun x : Use => counts ⟨b, v.filter (fun x => decide (x.known ≤ known)), known⟩ (IntKind.i64.wrap (t.tdiv b.period)) x && decide (x.known ≤ known)) = counts ⟨b, u, known⟩ (IntKind.i64.wrap (t.tdiv b.period)) := by
      funext x
      simp only [counts]
      cases decide (x.known ≤ known) <;> simp
    rw [e]
    exact h.filter _
  rw [hp.length_eq, total_perm hp]

def knownB (known : Int) (l : List Budget) : List Budget := l.filter fun x => decide (x.known ≤ known)
def knownU (known : Int) (u : List Use) : List Use := u.filter fun x => decide (x.known ≤ known)
theorem later_known (l : List Budget) (known : Int) (x : Budget) (at_ : Int) : (knownB known l).any (later18 x at_ known) = l.any (later18 x at_ known) := by
  unfold knownB
  rw [List.any_filter]
  congr 1
  funext y
  simp only [later18, counts18]
  cases decide (y.known ≤ known) <;> simp
theorem standing18_known (l : List Budget) (n at_ known : Int) : standing18 (knownB known l) n at_ known = standing18 l n at_ known := by
  unfold standing18
  have e : (fun x => pick18 (knownB known l) n at_ known x) = fun x => pick18 l n at_ known x := by
    funext x; simp only [pick18, stands18, later_known]
  show (knownB known l).filter (fun x => pick18 (knownB known l) n at_ known x) = _
  rw [e]
  unfold knownB
  rw [List.filter_filter]
  congr 1
  funext x
  simp only [pick18, stands18, counts18]
  cases decide (x.known ≤ known) <;> simp
theorem standing18_is_known {l : List Budget} {n at_ known : Int} {y : Budget} (h : y ∈ standing18 l n at_ known) : y ∈ l ∧ y.known ≤ known := by
  obtain ⟨h1, h2⟩ := List.mem_filter.1 h
  simp only [pick18, stands18, counts18, Bool.and_eq_true, decide_eq_true_eq] at h2
  exact ⟨h1, h2.2.1.2.2⟩

/-- Over: what becomes known later and the order do not matter. -/
theorem over_known {l : List Budget} {u v : List Use} {known : Int} (he : examine l u = 0) (hp : v.Perm u) (ht : isTime known = true) :
    over53R (knownB known l) (knownU known v) known = over53R l u known ∧ examine (knownB known l) (knownU known v) = 0 := by
  have he2 : examine (knownB known l) (knownU known v) = 0 := examine_less he List.filter_sublist hp List.filter_sublist
  refine ⟨?_, he2⟩
  have ho := checkB_ordered (examine_parts he).1
  have r1 : over53R (knownB known l) (knownU known v) known = (((knownB known l).filter (over53 (knownB known l) (knownU known v) known)).map (·.no), 0) := by
    unfold over53R; rw [if_neg (by simp [he2]), if_pos ht]
  have r2 : over53R l u known = ((l.filter (over53 l u known)).map (·.no), 0) := by
    unfold over53R; rw [if_neg (by simp [he]), if_pos ht]
  rw [r1, r2]
  congr 2
  show (l.filter (fun x => decide (x.known ≤ known))).filter _ = _
  rw [List.filter_filter]
  refine List.filter_congr fun b hb => ?_
  have e1 : over53 (knownB known l) (knownU known v) known b = over53 l u known b := by
    unfold over53
    show (v.filter _).any _ = _
    rw [List.any_filter]
    have e2 : (fun x : Use => decide (x.known ≤ known) && over1 (knownB known l) (knownU known v) known b x) = over1 l u known b := by
      funext x
      unfold over1
      rw [standing18_known]
      have e3 : spentOf ⟨b, knownU known v, known⟩ x.at_ = spentOf ⟨b, u, known⟩ x.at_ := spentOf_perm hp
      rw [e3]
      by_cases hx : x.known ≤ known
      · simp [hx]
      · have : known < x.known := by omega
        simp [hx, this]
    rw [e2]
    exact Bool.eq_iff_iff.2 (by simp only [List.any_eq_true]; exact ⟨fun ⟨x, hx, h⟩ => ⟨x, hp.mem_iff.1 hx, h⟩, fun ⟨x, hx, h⟩ => ⟨x, hp.mem_iff.2 hx, h⟩⟩)
  rw [e1]
  cases h : over53 l u known b with
  | false => simp
  | true =>
    obtain ⟨x, hx, h1⟩ := List.any_eq_true.1 h
    simp only [over1, Bool.and_eq_true] at h1
    obtain ⟨z, hz, hzn⟩ := List.any_eq_true.1 h1.2.1
    obtain ⟨hzl, hzk⟩ := standing18_is_known hz
    have hzy : z = b := uniq ho hzl hb (by simpa using hzn)
    subst hzy
    simp [hzk]

/-- History, likewise. -/
theorem history_known {l : List Budget} {u v : List Use} {no period known : Int} (he : examine l u = 0) (hp : v.Perm u) :
    history53R l (knownU known v) no period known = history53R l u no period known := by
  have he2 : examine l (knownU known v) = 0 := examine_less he (List.Sublist.refl _) hp List.filter_sublist
  unfold history53R
  rw [if_neg (by simp [he2]), if_neg (by simp [he])]
  cases findB l no with
  | none => rfl
  | some b =>
    simp only
    split
    · congr 1
      have e1 : times53 b (knownU known v) known period = times53 b u known period := by
        unfold times53
        have h1 := fold_put ((knownU known v).filter fun x => of53 b x known && decide (IntKind.i64.wrap (x.at_.tdiv b.period) = period)) [] (by simp)
        have h2 := fold_put (u.filter fun x => of53 b x known && decide (IntKind.i64.wrap (x.at_.tdiv b.period) = period)) [] (by simp)
        refine sorted_ext h1.1 h2.1 fun k => ?_
        rw [h1.2, h2.2]
        simp only [List.not_mem_nil, false_or, knownU, List.mem_filter]
        constructor
        · rintro ⟨x, ⟨⟨hx, _⟩, h3⟩, h4⟩; exact ⟨x, ⟨hp.mem_iff.1 hx, h3⟩, h4⟩
        · rintro ⟨x, ⟨hx, h3⟩, h4⟩
          refine ⟨x, ⟨⟨hp.mem_iff.2 hx, ?_⟩, h3⟩, h4⟩
          simp only [of53, Bool.and_eq_true] at h3
          exact h3.1.1
      rw [e1]
      refine List.map_congr_left fun t _ => ?_
      have e3 : spentOf ⟨b, knownU known v, known⟩ t = spentOf ⟨b, u, known⟩ t := spentOf_perm hp
      unfold step53; rw [e3]
    · rfl

/-- Who is overspent stands at the time of some use that is known. -/
theorem over_met {l : List Budget} {u v : List Use} {known n : Int} (he : examine l u = 0) (hp : v.Perm u) (h : n ∈ (over53R l u known).1) : ∃ x ∈ knownU known v, ∃ y ∈ standing18 l x.kind x.at_ known, y.no = n := by
  unfold over53R at h
  rw [if_neg (by simp [he])] at h
  split at h
  · obtain ⟨b, hb, rfl⟩ := List.mem_map.1 h
    obtain ⟨hbl, hov⟩ := List.mem_filter.1 hb
    obtain ⟨x, hx, h1⟩ := List.any_eq_true.1 hov
    simp only [over1, Bool.and_eq_true, Bool.not_eq_true', decide_eq_false_iff_not] at h1
    obtain ⟨z, hz, hzn⟩ := List.any_eq_true.1 h1.2.1
    exact ⟨x, List.mem_filter.2 ⟨hp.mem_iff.2 hx, by simp; omega⟩, z, hz, by simpa using hzn⟩
  · simp at h
end Go.Abs.P

/- Chapter 53: AccountsKnown, run. No conditions. -/
namespace Go.Abs.P
open Go.Proofs
set_option maxRecDepth 10000
variable {C : Ctx}

theorem stride_B (l : List Budget) : strideOk 8 (l.map Budget.enc) = True := by
  simp only [strideOk, List.mem_map, eq_iff_iff, iff_true]; rintro _ ⟨b, _, rfl⟩; rfl
theorem stride_U (l : List Use) : strideOk 5 (l.map Use.enc) = True := by
  simp only [strideOk, List.mem_map, eq_iff_iff, iff_true]; rintro _ ⟨b, _, rfl⟩; rfl
theorem right53_parts {l : List Budget} {u : List Use} {ts : List Int} (h : right53 l u ts = true) : ts.all isTime = true ∧ l.length ≤ 20 ∧ u.length ≤ 20 ∧ examine l u = 0 := by
  simp only [right53, Bool.and_eq_true, decide_eq_true_eq] at h
  exact ⟨h.1, h.2.1.1, h.2.1.2, h.2.2⟩


theorem knownB_cons (known : Int) (x : Budget) (l : List Budget) : knownB known (x :: l) = if decide (x.known ≤ known) = true then x :: knownB known l else knownB known l := List.filter_cons
theorem knownU_cons (known : Int) (x : Use) (l : List Use) : knownU known (x :: l) = if decide (x.known ≤ known) = true then x :: knownU known l else knownU known l := List.filter_cons
theorem isTime_in {n : Int} (h : isTime n = true) : 0 ≤ n ∧ n < 1099511627776 := by simpa [isTime] using h
set_option maxHeartbeats 8000000 in
theorem AccountsKnown_wp (h : In C) (l : List Budget) (u : List Use) (no period known : Int) (turn : Nat) (hturn : turn < 256) : ∀ ℓ, wp C ℓ law53_AccountsKnown.body ⟨argSlots 0 [.dat (.list (l.map Budget.enc) false), .dat (.list (u.map Use.enc) false), .dat (I no), .dat (I period), .dat (I known), .dat (.int .u8 turn)], [], noneF, 0, []⟩ (fnK law53_AccountsKnown.res (Gives (.dat (.bool true)))) := by
  intro ℓ
  unfold law53_AccountsKnown
  simp +contextual -implicitDefEqProofs (maxSteps := 1000000) only [go_sem]
  refine CallX.plain (sane_ok h) ?_
  simp +contextual -implicitDefEqProofs (maxSteps := 1000000) only [go_sem]
  refine CallX.plain (right53_ok h l u [known] (by simp)) ?_
  simp +contextual -implicitDefEqProofs (maxSteps := 1000000) only [go_sem]
  refine ⟨?_, ?_⟩
  rotate_left
  · intro _
    exact RetNow.gives (.inr rfl)
  intro hr
  obtain ⟨ht, hl, hu, he⟩ := right53_parts (by simpa using hr)
  have ht : isTime known = true := by simpa using ht
  have hO := Over_ok h l u known
  rw [overR_eq] at hO
  have hO2 : (over53R l u known).2 = 0 := by unfold over53R; rw [if_neg (by simp [he]), if_pos ht]
  rw [hO2] at hO
  have hNl := over53R_len l u known
  have hmet := fun n => over_met (n := n) (known := known) he (rot_perm turn u)
  have hsame := (over_known he (rot_perm turn u) ht).1
  have hH := History_ok h l u no period known
  rw [historyR_eq] at hH
  have hsameH := history_known (no := no) (period := period) (known := known) he (rot_perm turn u)
  have hHl := history53R_len l u no period known
  have hO' := Over_ok h (knownB known l) (knownU known (rot turn u)) known
  rw [overR_eq, hsame, hO2] at hO'
  have hH' := History_ok h l (knownU known (rot turn u)) no period known
  rw [historyR_eq, hsameH] at hH'
  have hrl : (rot turn u).length = u.length := by simp [rot]
  have hVl : (knownU known (rot turn u)).length ≤ 20 := by
    have : (knownU known (rot turn u)).length ≤ (rot turn u).length := List.length_filter_le _ _
    omega
  have hVf : ∀ x ∈ knownU known (rot turn u), x.fits = true := fun x hx => usesFrom_fits u [] (examine_parts he).2.2 x ((rot_perm turn u).mem_iff.1 (List.mem_filter.1 hx).1)
  clear hO2 hsame hsameH hr
  generalize (over53R l u known).1 = N at *
  generalize history53R l u no period known = H at *
  refine CallX.plain hO ?_
  simp +contextual -implicitDefEqProofs (maxSteps := 1000000) only [go_sem, encR]
  refine CallX.plain hH ?_
  simp +contextual -implicitDefEqProofs (maxSteps := 1000000) only [go_sem, encR]
  refine LoopW.sh (some ([0, 1, 2, 3, 4, 5, 13, 14, 15, 16, 17, 60, 61, 62], [73])) (fun i s => ∃ n k xs, s = ⟨[(0, .dat (.list (l.map Budget.enc) false)), (1, .dat (.list (u.map Use.enc) false)), (2, .dat (I no)), (3, .dat (I period)), (4, .dat (I known)), (5, .dat (.int .u8 turn)), (13, .dat (.list (N.map I) false)), (14, .dat (I 0)), (15, .dat (.list (H.1.map encStep) false)), (16, .dat (I H.2)), (17, .lst (xs.map Budget.enc) (.v ℓ 73 k)), (60, .dat (.list (l.map Budget.enc) false)), (61, .dat (I l.length)), (62, .dat (I i))], [(.v ℓ 73 k, .tok 8)], noneF, n, []⟩ ∧ xs.length ≤ i ∧ knownB known l = xs ++ knownB known (l.drop i)) l.length ?_ ?_
  · refine ⟨_, (Sh.tok C ℓ _ 17 73 8 (by simp only [go_sem])).trans (Sh.keep C ℓ _ (some ([0, 1, 2, 3, 4, 5, 13, 14, 15, 16, 17, 60, 61, 62], [73]))), ?_⟩
    simp only [go_sem]
    exact ⟨_, _, [], rfl, Nat.le_refl _, rfl⟩
  rintro i hi s ⟨n, k, xs, rfl, hlen, hst⟩
  unfold law53_AccountsKnown_l0
  simp only [go_sem]
  constructor
  · intro h3
    have h' : i < l.length := by simpa using h3
    have hx := List.getElem?_eq_getElem h'
    have hd := List.drop_eq_getElem_cons h'
    generalize l[i] = x at hx hd
    have hw : IntKind.i64.wrap ((i : Int) + 1) = ((i + 1 : Nat) : Int) := wrap_in (by omega)
    have hm : xs.length + 1 ≤ mostLen := by unfold mostLen; omega
    rw [hd, knownB_cons] at hst
    simp +contextual -implicitDefEqProofs (maxSteps := 1000000) only [go_sem, hx, hw, hm]
    constructor
    · intro h4
      rw [if_pos h4] at hst
      exact ⟨h', _, Sh.refl C ℓ _, _, _, xs ++ [x], by rw [List.map_append]; rfl, by simp; omega, by rw [hst]; simp⟩
    · intro h4
      rw [if_neg (by simp [h4])] at hst
      exact ⟨h', _, Sh.refl C ℓ _, _, _, xs, rfl, by omega, hst⟩
  intro h3
  have hxs : xs = knownB known l := by rw [hst, List.drop_eq_nil_of_le (by simpa using h3)]; simp [knownB]
  clear hst; subst hxs
  clear h3 hi hlen i
  refine LoopW.sh (some ([0, 1, 2, 3, 4, 5, 13, 14, 15, 16, 17, 20, 76, 77], [73, 97])) (fun i s => ∃ n k2 ys, s = ⟨[(0, .dat (.list (l.map Budget.enc) false)), (1, .dat (.list (u.map Use.enc) false)), (2, .dat (I no)), (3, .dat (I period)), (4, .dat (I known)), (5, .dat (.int .u8 turn)), (13, .dat (.list (N.map I) false)), (14, .dat (I 0)), (15, .dat (.list (H.1.map encStep) false)), (16, .dat (I H.2)), (17, .lst ((knownB known l).map Budget.enc) (.v ℓ 73 k)), (20, .lst (ys.map Use.enc) (.v ℓ 97 k2)), (76, .dat (I u.length)), (77, .dat (I i))], [(.v ℓ 73 k, .tok 8), (.v ℓ 97 k2, .tok 5)], noneF, n, []⟩ ∧ ys.length ≤ i ∧ knownU known (rot turn u) = ys ++ knownU known ((rot turn u).drop i)) u.length ?_ ?_
  · refine ⟨_, (Sh.tok C ℓ _ 20 97 5 (by simp only [go_sem])).trans (Sh.keep C ℓ _ (some ([0, 1, 2, 3, 4, 5, 13, 14, 15, 16, 17, 20, 76, 77], [73, 97]))), ?_⟩
    simp only [go_sem]
    exact ⟨_, _, [], rfl, Nat.le_refl _, rfl⟩
  rintro i hi s ⟨n, k2, ys, rfl, hlen, hst⟩
  unfold law53_AccountsKnown_l1
  simp only [go_sem]
  constructor
  · intro h3
    have h' : i < u.length := by simpa using h3
    have hj := Nat.mod_lt (i + turn) (show 0 < u.length by omega)
    have hx := List.getElem?_eq_getElem hj
    have hd := List.drop_eq_getElem_cons (l := rot turn u) (i := i) (by omega)
    have hxr : (rot turn u)[i]'(by omega) = u[(i + turn) % u.length] := by
      simp only [rot, List.getElem_map, List.getElem_range]
      rw [List.getElem!_eq_getElem?_getD, hx]; rfl
    rw [hxr] at hd
    generalize u[(i + turn) % u.length] = x at hx hd
    have hw : IntKind.i64.wrap ((i : Int) + 1) = ((i + 1 : Nat) : Int) := wrap_in (by omega)
    have ht : IntKind.i64.wrap (turn : Int) = (turn : Int) := wrap_in (by omega)
    have hti : IntKind.i64.wrap ((i : Int) + (turn : Int)) = ((i + turn : Nat) : Int) := wrap_in (by omega)
    have hz : ((u.length : Int) = 0) = False := by simp; intro e; rw [e] at h'; simp at h'
    have hmo : (((i + turn : Nat) : Int).tmod (u.length : Int)) = (((i + turn) % u.length : Nat) : Int) := by rw [Int.ofNat_tmod]
    have hm : ys.length + 1 ≤ mostLen := by unfold mostLen; omega
    rw [hd, knownU_cons] at hst
    simp +contextual -implicitDefEqProofs (maxSteps := 1000000) only [go_sem, ht, hti, hz, hmo, hx, hw, hm]
    constructor
    · intro h4
      rw [if_pos h4] at hst
      exact ⟨h', _, Sh.refl C ℓ _, _, _, ys ++ [x], by rw [List.map_append]; rfl, by simp; omega, by rw [hst]; simp⟩
    · intro h4
      rw [if_neg (by simp [h4])] at hst
      exact ⟨h', _, Sh.refl C ℓ _, _, _, ys, rfl, by omega, hst⟩
  intro h3
  have hxs : ys = knownU known (rot turn u) := by rw [hst, List.drop_eq_nil_of_le (by rw [hrl]; simpa using h3)]; simp [knownU]
  clear hst; subst hxs
  clear h3 hi hlen i
  generalize knownU known (rot turn u) = V at *
  refine CallX.plain hO' ?_
  simp +contextual -implicitDefEqProofs (maxSteps := 1000000) only [go_sem, encR]
  refine CallX.plain hH' ?_
  simp +contextual -implicitDefEqProofs (maxSteps := 1000000) only [go_sem, encR]
  have hs1 := SameInts_ok h N N hNl
  rw [decide_eq_true rfl] at hs1
  refine CallX.plain hs1 ?_
  simp +contextual -implicitDefEqProofs (maxSteps := 1000000) only [go_sem]
  have hs2 := SameSteps_ok h H.1 H.1 hHl
  rw [decide_eq_true rfl] at hs2
  refine CallX.plain hs2 ?_
  simp +contextual -implicitDefEqProofs (maxSteps := 1000000) only [go_sem]
  refine LoopW.up (some ([0, 4, 20, 138, 139, 140], [])) (fun i s => ∃ n, s = ⟨[(0, .dat (.list (l.map Budget.enc) false)), (4, .dat (I known)), (20, .lst (V.map Use.enc) (.v ℓ 97 k2)), (138, .dat (.list (N.map I) false)), (139, .dat (I N.length)), (140, .dat (I i))], [], noneF, n, []⟩) N.length ?_ ?_
  · simp only [go_sem]
    exact ⟨_, rfl⟩
  rintro i hi s ⟨n, rfl⟩
  unfold law53_AccountsKnown_l4
  simp only [go_sem]
  constructor
  rotate_left
  · intro _
    exact RetNow.gives (.inr rfl)
  intro h3
  have h' : i < N.length := by simpa using h3
  have hx := List.getElem?_eq_getElem h'
  have hxm : N[i] ∈ N := List.getElem_mem h'
  generalize N[i] = x at hx hxm
  have hw : IntKind.i64.wrap ((i : Int) + 1) = ((i + 1 : Nat) : Int) := wrap_in (by omega)
  have hmx := hmet x hxm
  simp +contextual -implicitDefEqProofs (maxSteps := 1000000) only [go_sem, hx]
  refine LoopW.up (some ([0, 4, 20, 28, 29, 138, 139, 140, 144, 145, 146], [])) (fun j s => ∃ n met, s = ⟨[(0, .dat (.list (l.map Budget.enc) false)), (4, .dat (I known)), (20, .lst (V.map Use.enc) (.v ℓ 97 k2)), (28, .dat (I x)), (29, .dat (.bool met)), (138, .dat (.list (N.map I) false)), (139, .dat (I N.length)), (140, .dat (I i)), (144, .lst (V.map Use.enc) (.v ℓ 97 k2)), (145, .dat (I V.length)), (146, .dat (I j))], [], noneF, n, []⟩ ∧ (met = true ∨ ∃ y ∈ V.drop j, ∃ z ∈ standing18 l y.kind y.at_ known, z.no = x)) V.length ?_ ?_
  · simp only [go_sem]
    exact ⟨_, _, rfl, .inr (by simpa using hmx)⟩
  rintro j hj s ⟨n, met, rfl, hm3⟩
  unfold law53_AccountsKnown_l3
  simp only [go_sem]
  constructor
  rotate_left
  · intro h4
    have hmt : met = true := by
      rcases hm3 with h5 | ⟨y, hy, _⟩
      · exact h5
      · rw [List.drop_eq_nil_of_le (by simpa using h4)] at hy; simp at hy
    subst hmt
    simp +contextual -implicitDefEqProofs (maxSteps := 1000000) only [go_sem, hw]
    exact ⟨h', _, rfl⟩
  intro h4
  have h5 : j < V.length := by simpa using h4
  have hy := List.getElem?_eq_getElem h5
  have hyd := List.drop_eq_getElem_cons h5
  have hym : V[j] ∈ V := List.getElem_mem h5
  generalize V[j] = y at hy hyd hym
  have hwj : IntKind.i64.wrap ((j : Int) + 1) = ((j + 1 : Nat) : Int) := wrap_in (by omega)
  have hyf := fits_parts (hVf y hym)
  have hst := Standing_ok h l y.kind y.at_ known
  rw [standingR_in (examine_parts he).1 hyf.2.1 hyf.2.2.2.1 (isTime_in ht), standing_eq (examine_parts he).1] at hst
  rw [hyd] at hm3
  have hZl : (standing18 l y.kind y.at_ known).length ≤ l.length := List.length_filter_le _ _
  have hm3' : met = true ∨ (∃ z ∈ standing18 l y.kind y.at_ known, z.no = x) ∨ ∃ y ∈ V.drop (j + 1), ∃ z ∈ standing18 l y.kind y.at_ known, z.no = x := by
    rcases hm3 with e | ⟨a, ha, hb⟩
    · exact .inl e
    · rcases List.mem_cons.1 ha with e | ha
      · subst e; exact .inr (.inl hb)
      · exact .inr (.inr ⟨a, ha, hb⟩)
  simp +contextual -implicitDefEqProofs (maxSteps := 1000000) only [go_sem, hy]
  refine CallX.plain hst ?_
  generalize standing18 l y.kind y.at_ known = Z at *
  simp +contextual -implicitDefEqProofs (maxSteps := 1000000) only [go_sem, encR]
  refine LoopW.up (some ([0, 4, 20, 28, 29, 138, 139, 140, 144, 145, 146, 162, 163, 164], [])) (fun m s => ∃ n m2, s = ⟨[(0, .dat (.list (l.map Budget.enc) false)), (4, .dat (I known)), (20, .lst (V.map Use.enc) (.v ℓ 97 k2)), (28, .dat (I x)), (29, .dat (.bool m2)), (138, .dat (.list (N.map I) false)), (139, .dat (I N.length)), (140, .dat (I i)), (144, .lst (V.map Use.enc) (.v ℓ 97 k2)), (145, .dat (I V.length)), (146, .dat (I j)), (162, .dat (.list (Z.map Budget.enc) false)), (163, .dat (I Z.length)), (164, .dat (I m))], [], noneF, n, []⟩ ∧ (m2 = true ∨ (∃ z ∈ Z.drop m, z.no = x) ∨ ∃ y ∈ V.drop (j + 1), ∃ z ∈ standing18 l y.kind y.at_ known, z.no = x)) Z.length ?_ ?_
  · simp only [go_sem]
    exact ⟨_, _, rfl, by simpa using hm3'⟩
  rintro m hm s ⟨n, m2, rfl, hm2⟩
  unfold law53_AccountsKnown_l2
  simp only [go_sem]
  constructor
  · intro h6
    have h7 : m < Z.length := by simpa using h6
    have hz := List.getElem?_eq_getElem h7
    have hzd := List.drop_eq_getElem_cons h7
    generalize Z[m] = z at hz hzd
    have hwm : IntKind.i64.wrap ((m : Int) + 1) = ((m + 1 : Nat) : Int) := wrap_in (by omega)
    rw [hzd] at hm2
    cases m2
    all_goals
      simp +contextual -implicitDefEqProofs (maxSteps := 1000000) only [go_sem, hz, hwm]
      refine ⟨h7, _, _, rfl, ?_⟩
    · rcases hm2 with e | ⟨a, ha, hb⟩ | e
      · simp at e
      · rcases List.mem_cons.1 ha with e | ha
        · subst e; exact .inl (by simpa using hb)
        · exact .inr (.inl ⟨a, ha, hb⟩)
      · exact .inr (.inr e)
    · exact .inl rfl
  · intro h6
    simp +contextual -implicitDefEqProofs (maxSteps := 1000000) only [go_sem, hwj]
    refine ⟨h5, _, _, rfl, ?_⟩
    rcases hm2 with e | ⟨a, ha, _⟩ | e
    · exact .inl e
    · rw [List.drop_eq_nil_of_le (by simpa using h6)] at ha; simp at ha
    · exact .inr e
end Go.Abs.P

/- Chapter 53: the plain law of AccountsSteps. No conditions. -/
namespace Go.Abs.P

theorem right_most {x : Budget} (h : x.right = true) : 0 ≤ x.count ∧ 0 ≤ x.value ∧ x.count ≤ 1048576 ∧ x.value ≤ 1099511627776 := by
  unfold Budget.right at h
  cases hg : x.gone <;> rw [hg] at h <;> simp only [between, List.all_cons, List.all_nil, Bool.and_true, Bool.and_eq_true, decide_eq_true_eq, if_true, Bool.false_eq_true, if_false] at h <;> omega

/-- The times of a period. -/
theorem times_mem {b : Budget} (hk : -1 ≤ b.kind) (u : List Use) (known per : Int) : (times53 b u known per).Pairwise (· < ·) ∧ ∀ t, t ∈ times53 b u known per ↔ ∃ x ∈ u.filter (counts ⟨b, u, known⟩ per), x.at_ = t := by
  have hf : (fun x => of53 b x known && decide (IntKind.i64.wrap (x.at_.tdiv b.period) = per)) = counts ⟨b, u, known⟩ per := by
    funext x; rw [of53_kind hk]; rfl
  have h2 := fold_put (u.filter (counts ⟨b, u, known⟩ per)) [] (by simp)
  have ht : times53 b u known per = (u.filter (counts ⟨b, u, known⟩ per)).foldl (fun l x => put53 l x.at_) [] := by unfold times53; rw [hf]
  rw [← ht] at h2
  exact ⟨h2.1, fun t => by rw [h2.2]; simp⟩
theorem counts_per {b : Budget} {u : List Use} {known per : Int} {x : Use} (h : x ∈ u.filter (counts ⟨b, u, known⟩ per)) : x ∈ u ∧ IntKind.i64.wrap (x.at_.tdiv b.period) = per := by
  obtain ⟨h1, h2⟩ := List.mem_filter.1 h
  simp only [counts, Bool.and_eq_true, decide_eq_true_eq] at h2
  exact ⟨h1, h2.2⟩
theorem spent_upto {b : Budget} {u : List Use} {known per t : Int} (h : IntKind.i64.wrap (t.tdiv b.period) = per) :
    spentOf ⟨b, u, known⟩ t = (IntKind.i64.wrap (upto t (u.filter (counts ⟨b, u, known⟩ per))).length, IntKind.i64.wrap (total (upto t (u.filter (counts ⟨b, u, known⟩ per))))) :=
  spentOf_eq ⟨b, u, known⟩ t _ (by simp only [h]; rfl)
theorem wrap_nat {n : Nat} (h : n ≤ 1048576) : IntKind.i64.wrap (n : Int) = n := wrap_in (by omega)
theorem upto_lt {v : List Use} {s t : Int} (h : s < t) (hx : ∃ x ∈ v, x.at_ = t) : (upto s v).length < (upto t v).length := by
  obtain ⟨x, hx, e⟩ := hx
  induction v with
  | nil => simp at hx
  | cons y v ih =>
    have mono : (upto s v).length ≤ (upto t v).length := by
      unfold upto
      have : (v.filter fun x => decide (x.at_ ≤ s)) = (v.filter fun x => decide (x.at_ ≤ t)).filter fun x => decide (x.at_ ≤ s) := by
        rw [List.filter_filter]; congr 1; funext z
        by_cases h1 : z.at_ ≤ s
        · have : z.at_ ≤ t := by omega
          simp [h1, this]
        · simp [h1]
      rw [this]; exact List.length_filter_le _ _
    rcases List.mem_cons.1 hx with e2 | hx
    · subst e2
      have h1 : ¬ x.at_ ≤ s := by omega
      have h2 : x.at_ ≤ t := by omega
      simp only [upto, List.filter_cons, h1, h2, decide_false, decide_true, if_true] at mono ⊢
      simp; omega
    · have := ih hx
      simp only [upto, List.filter_cons] at this ⊢
      by_cases h1 : y.at_ ≤ s
      · have h2 : y.at_ ≤ t := by omega
        simp [h1, h2]; exact this
      · by_cases h2 : y.at_ ≤ t <;> simp [h1, h2] <;> omega

/-- The last step up to a time. -/
def lastStep53 (b : Budget) (u : List Use) (known at_ : Int) (a : Int × Int × Bool) (t : Int) : Int × Int × Bool := if t ≤ at_ then step53 b u known t else a
theorem last_filter (b : Budget) (u : List Use) (known at_ : Int) : ∀ (T : List Int) (a : Int × Int × Bool), T.foldl (lastStep53 b u known at_) a = ((T.filter fun t => decide (t ≤ at_)).getLast?.map (step53 b u known)).getD a
  | [], a => rfl
  | t :: T, a => by
    rw [List.foldl_cons, last_filter b u known at_ T, List.filter_cons]
    unfold lastStep53
    by_cases h : t ≤ at_
    · simp only [h, decide_true, if_true]
      generalize (T.filter fun t => decide (t ≤ at_)) = S
      cases S with
      | nil => rfl
      | cons x S => simp only [List.getLast?_cons, Option.map_some, Option.getD_some]
    · simp [h]
theorem last_max : ∀ {l : List Int} {x : Int}, l.Pairwise (· < ·) → l.getLast? = some x → ∀ y ∈ l, y ≤ x
  | [], x, _, h => by simp at h
  | [a], x, _, h => by simp at h; subst h; simp
  | a :: c :: l, x, hp, h => by
    rw [List.getLast?_cons_cons] at h
    rw [List.pairwise_cons] at hp
    have := last_max hp.2 h
    intro y hy
    rcases List.mem_cons.1 hy with e | hy
    · subst e
      have h1 := hp.1 c (by simp)
      have h2 := this c (by simp)
      omega
    · exact this y hy

theorem last_ok {l : List Budget} {u : List Use} {b : Budget} {known at_ : Int} (he : examine l u = 0) (hu : u.length ≤ 20) (hb : b ∈ l) :
    ((times53 b u known (IntKind.i64.wrap (at_.tdiv b.period))).foldl (lastStep53 b u known at_) (0, 0, true)).2 = ((spentOf ⟨b, u, known⟩ at_).1, fine b (spentOf ⟨b, u, known⟩ at_).1 (spentOf ⟨b, u, known⟩ at_).2) := by
  have hr := checkB_right (examine_parts he).1 b hb
  have hp := right_parts hr
  have hm := right_most hr
  generalize hper : IntKind.i64.wrap (at_.tdiv b.period) = per
  obtain ⟨hs, hmem⟩ := times_mem (b := b) (by omega) u known per
  rw [last_filter, spent_upto hper]
  have hsame : ∀ t, t ≤ at_ → (∀ x ∈ times53 b u known per, x ≤ at_ → x ≤ t) → upto t (u.filter (counts ⟨b, u, known⟩ per)) = upto at_ (u.filter (counts ⟨b, u, known⟩ per)) := by
    intro t ht hx
    refine List.filter_congr fun x hxm => ?_
    rw [decide_eq_decide]
    constructor
    · intro h; omega
    · intro h; exact hx x.at_ ((hmem _).2 ⟨x, hxm, rfl⟩) h
  cases hl : ((times53 b u known per).filter fun t => decide (t ≤ at_)).getLast? with
  | none =>
    have hn := List.getLast?_eq_none_iff.1 hl
    have h0 : upto at_ (u.filter (counts ⟨b, u, known⟩ per)) = [] := by
      unfold upto
      rw [List.filter_eq_nil_iff]
      intro x hx hxt
      have : x.at_ ∈ (times53 b u known per).filter fun t => decide (t ≤ at_) := List.mem_filter.2 ⟨(hmem _).2 ⟨x, hx, rfl⟩, hxt⟩
      rw [hn] at this; simp at this
    rw [h0]
    have z : IntKind.i64.wrap 0 = 0 := by decide
    simp only [total, List.map_nil, List.sum_nil, List.length_nil]
    rw [show ((0 : Nat) : Int) = 0 from rfl, z]
    simp [fine, hm.1, hm.2.1]
  | some t =>
    have htm := List.mem_of_getLast? hl
    obtain ⟨ht, hta⟩ := List.mem_filter.1 htm
    have hmax := last_max (hs.sublist List.filter_sublist) hl
    obtain ⟨x, hx, rfl⟩ := (hmem t).1 ht
    have hxper := (counts_per hx).2
    have e := hsame x.at_ (by simpa using hta) fun y hy hya => hmax y (List.mem_filter.2 ⟨hy, by simpa using hya⟩)
    simp only [Option.map_some, Option.getD_some, step53]
    rw [spent_upto hxper, e]

/-- What is true of a step. -/
structure StepOk (l : List Budget) (u : List Use) (no known : Int) (b : Budget) (per : Int) (t : Int) : Prop where
  per : IntKind.i64.wrap (t.tdiv b.period) = per
  nn : 0 ≤ t ∧ t < 1099511627776
  spent : spentR l u no t known = ((spentOf ⟨b, u, known⟩ t).1, (spentOf ⟨b, u, known⟩ t).2, 0)
theorem step_ok {l : List Budget} {u : List Use} {no : Int} {b : Budget} {known per t : Int} (he : examine l u = 0) (hf : findB l no = some b) (hk : isTime known = true) (ht : t ∈ times53 b u known per) : StepOk l u no known b per t := by
  have hr := right_parts (checkB_right (examine_parts he).1 b (findB_mem hf))
  obtain ⟨x, hx, rfl⟩ := ((times_mem (b := b) (by omega) u known per).2 t).1 ht
  obtain ⟨hxu, hxp⟩ := counts_per hx
  have hxf := fits_parts (usesFrom_fits u [] (examine_parts he).2.2 x hxu)
  refine ⟨hxp, hxf.2.2.2.1, ?_⟩
  unfold spentR
  rw [if_neg (by simp [he]), hf]
  have hk : 0 ≤ known ∧ known < 1099511627776 := by simpa [isTime] using hk
  simp only
  rw [if_pos]
  simp only [within, List.all_cons, List.all_nil, Bool.and_true, Bool.and_eq_true, decide_eq_true_eq]
  omega
theorem step_lt {b : Budget} {u : List Use} {known per s t : Int} (hu : u.length ≤ 20) (hk : -1 ≤ b.kind) (hs : s ∈ times53 b u known per) (ht : t ∈ times53 b u known per) (h : s < t) : (spentOf ⟨b, u, known⟩ s).1 < (spentOf ⟨b, u, known⟩ t).1 := by
  obtain ⟨x, hx, rfl⟩ := ((times_mem hk u known per).2 s).1 hs
  obtain ⟨y, hy, rfl⟩ := ((times_mem hk u known per).2 t).1 ht
  rw [spent_upto (counts_per hx).2, spent_upto (counts_per hy).2]
  have h1 := upto_lt h ⟨y, hy, rfl⟩
  have l1 : (upto y.at_ (u.filter (counts ⟨b, u, known⟩ per))).length ≤ u.length := Nat.le_trans (List.length_filter_le _ _) (List.length_filter_le _ _)
  simp only
  rw [wrap_nat (by omega), wrap_nat (by omega)]
  omega
end Go.Abs.P

/- Chapter 53: AccountsSteps, run. No conditions. -/
namespace Go.Abs.P
open Go.Proofs
set_option maxRecDepth 10000
variable {C : Ctx}

set_option maxHeartbeats 16000000 in
theorem AccountsSteps_wp (h : In C) (l : List Budget) (u : List Use) (no at_ known : Int) : ∀ ℓ, wp C ℓ law53_AccountsSteps.body ⟨argSlots 0 [.dat (.list (l.map Budget.enc) false), .dat (.list (u.map Use.enc) false), .dat (I no), .dat (I at_), .dat (I known)], [], noneF, 0, []⟩ (fnK law53_AccountsSteps.res (Gives (.dat (.bool true)))) := by
  intro ℓ
  unfold law53_AccountsSteps
  simp +contextual -implicitDefEqProofs (maxSteps := 1000000) only [go_sem]
  refine CallX.plain (sane_ok h) ?_
  simp +contextual -implicitDefEqProofs (maxSteps := 1000000) only [go_sem]
  refine CallX.plain (right53_ok h l u [at_, known] (by simp)) ?_
  simp +contextual -implicitDefEqProofs (maxSteps := 1000000) only [go_sem]
  refine ⟨?_, ?_⟩
  rotate_left
  · intro _
    exact RetNow.gives (.inr rfl)
  intro hr
  obtain ⟨ht, hl, hu, he⟩ := right53_parts (by simpa using hr)
  clear hr
  simp only [List.all_cons, List.all_nil, Bool.and_true, Bool.and_eq_true] at ht
  obtain ⟨hta, htk⟩ := ht
  have hc := (examine_parts he).1
  have hwi : within 1099511627776 [at_, known] = true := by
    have h1 := isTime_in hta; have h2 := isTime_in htk
    simp only [within, List.all_cons, List.all_nil, Bool.and_true, Bool.and_eq_true, decide_eq_true_eq]; omega
  refine CallX.plain (Find53_ok h l (by omega) no) ?_
  have hsp := find_spec no l 0
  have hS := Spent_ok h l u no at_ known
  have hH := fun p => History_ok h l u no p known
  cases hf : findB l no with
  | none =>
    rw [hf] at hsp
    simp only at hsp
    have hneg : decide (findFrom no 0 l < 0) = true := by rw [hsp]; decide
    have e : spentR l u no at_ known = (0, 0, 1) := by unfold spentR; rw [if_neg (by simp [he]), hf]
    rw [e] at hS
    simp +contextual -implicitDefEqProofs (maxSteps := 1000000) only [go_sem]
    refine CallX.plain hS ?_
    simp +contextual -implicitDefEqProofs (maxSteps := 1000000) only [go_sem, hneg]
    exact RetNow.gives (.inr rfl)
  | some b =>
    rw [hf] at hsp
    obtain ⟨q, hk1, hk2⟩ := hsp
    rw [Nat.zero_add] at hk1
    have hbl := findB_mem hf
    have hbr := checkB_right hc b hbl
    have hb := right_parts hbr
    have hneg : decide (((q : Nat) : Int) < 0) = false := decide_eq_false (by omega)
    have e : spentR l u no at_ known = ((spentOf ⟨b, u, known⟩ at_).1, (spentOf ⟨b, u, known⟩ at_).2, 0) := by
      unfold spentR; rw [if_neg (by simp [he]), hf]; simp only; rw [if_pos hwi]
    rw [e] at hS
    have hta' := isTime_in hta
    have hdiv0 : 0 ≤ at_.tdiv b.period := Int.tdiv_nonneg (by omega) (by omega)
    have hdiv1 : at_.tdiv b.period ≤ (1099511627775 : Int).tdiv b.period := by
      rw [Int.tdiv_eq_ediv_of_nonneg hta'.1, Int.tdiv_eq_ediv_of_nonneg (by omega)]
      exact Int.ediv_le_ediv (by omega) (by omega)
    have hdiv2 : at_.tdiv b.period ≤ at_ := Int.tdiv_le_self _ hta'.1
    have hwp : IntKind.i64.wrap (at_.tdiv b.period) = at_.tdiv b.period := wrap_in (by omega)
    have eH : historyR l u no (at_.tdiv b.period) known = ((times53 b u known (at_.tdiv b.period)).map (step53 b u known), 0) := by
      rw [historyR_eq]; unfold history53R
      rw [if_neg (by simp [he]), hf]; simp only; rw [if_pos ⟨hdiv0, hdiv1, htk⟩]
    have hH := hH (at_.tdiv b.period)
    rw [eH] at hH
    have hlast := last_ok (at_ := at_) (known := known) he hu hbl
    rw [hwp] at hlast
    obtain ⟨hsort, hmem⟩ := times_mem (b := b) (by omega) u known (at_.tdiv b.period)
    have hstep := fun t ht => step_ok (t := t) (per := at_.tdiv b.period) he hf htk ht
    have hlt := fun s t hs ht hst => step_lt (s := s) (t := t) (per := at_.tdiv b.period) (known := known) hu (b := b) (by omega) hs ht hst
    have hTl : (times53 b u known (at_.tdiv b.period)).length ≤ 4096 := by
      have := fold_put_len (u.filter fun x => of53 b x known && decide (IntKind.i64.wrap (x.at_.tdiv b.period) = at_.tdiv b.period)) []
      have h2 := List.length_filter_le (fun x => of53 b x known && decide (IntKind.i64.wrap (x.at_.tdiv b.period) = at_.tdiv b.period)) u
      simp only [List.length_nil] at this
      unfold times53; omega
    generalize times53 b u known (at_.tdiv b.period) = T at *
    have hz : (b.period = 0) = False := by simp; omega
    rw [hk1]
    simp +contextual -implicitDefEqProofs (maxSteps := 1000000) only [go_sem]
    refine CallX.plain hS ?_
    simp +contextual -implicitDefEqProofs (maxSteps := 1000000) only [go_sem, hneg, hk2, hz, hwp]
    refine CallX.plain hH ?_
    simp +contextual -implicitDefEqProofs (maxSteps := 1000000) only [go_sem, encR]
    refine LoopW.up (some ([0, 1, 2, 3, 4, 12, 13, 15, 16, 18, 81, 82, 83], [15, 18])) (fun k s => ∃ n R, s = ⟨[(0, .dat (.list (l.map Budget.enc) false)), (1, .dat (.list (u.map Use.enc) false)), (2, .dat (I no)), (3, .dat (I at_)), (4, .dat (I known)), (12, .dat (I (spentOf ⟨b, u, known⟩ at_).1)), (13, .dat (I (spentOf ⟨b, u, known⟩ at_).2)), (15, .ptr (.v ℓ 15 0) 0), (16, .dat (.list ((T.map (step53 b u known)).map encStep) false)), (18, .ptr (.v ℓ 18 1) 0), (81, .dat (.list ((T.map (step53 b u known)).map encStep) false)), (82, .dat (I (T.map (step53 b u known)).length)), (83, .dat (I k))], [(.v ℓ 15 0, .cells [.dat (I b.no), .dat (I b.at_), .dat (I b.known), .dat (I b.kind), .dat (I b.period), .dat (I b.count), .dat (I b.value), .dat (.bool b.gone)]), (.v ℓ 18 1, .cells [.dat (I R.1), .dat (I R.2.1), .dat (.bool R.2.2)])], noneF, n, []⟩ ∧ (T.foldl (lastStep53 b u known at_) (0, 0, true)) = (T.drop k).foldl (lastStep53 b u known at_) R) T.length ?_ ?_
    · simp only [go_sem]
      exact ⟨_, (0, 0, true), rfl, rfl⟩
    rintro k hkN s ⟨n, R, rfl, hR⟩
    unfold law53_AccountsSteps_l0
    simp only [go_sem]
    constructor
    rotate_left
    · intro h3
      rw [List.drop_eq_nil_of_le (by simpa using h3), List.foldl_nil] at hR
      rw [hR] at hlast
      obtain ⟨R1, R2, R3⟩ := R
      simp only [Prod.mk.injEq] at hlast
      obtain ⟨rfl, rfl⟩ := hlast
      cases g1 : decide ((spentOf ⟨b, u, known⟩ at_).1 ≤ b.count) <;> cases g2 : decide ((spentOf ⟨b, u, known⟩ at_).2 ≤ b.value)
      all_goals
        simp +contextual -implicitDefEqProofs (maxSteps := 1000000) only [go_sem, fine, g1, g2]
        exact RetNow.gives (.inr rfl)
    intro h3
    have h' : k < T.length := by simpa using h3
    have hx := List.getElem?_eq_getElem h'
    have hd := List.drop_eq_getElem_cons h'
    have htm : T[k] ∈ T := List.getElem_mem h'
    have hprev : ∀ j, k = j + 1 → ∃ s, T[j]? = some s ∧ s ∈ T ∧ s < T[k] := fun j e => by
      subst e
      exact ⟨T[j], List.getElem?_eq_getElem (by omega), List.getElem_mem _, List.pairwise_iff_getElem.1 hsort _ _ _ _ (by omega)⟩
    generalize T[k] = t at hx hd htm hprev
    have hw : IntKind.i64.wrap ((k : Int) + 1) = ((k + 1 : Nat) : Int) := wrap_in (by omega)
    obtain ⟨hper, hnn, hsp⟩ := hstep t htm
    have hneg0 : decide (t < 0) = false := decide_eq_false (by omega)
    have hSt := Spent_ok h l u no t known
    rw [hsp] at hSt
    rw [hd, List.foldl_cons] at hR
    simp +contextual -implicitDefEqProofs (maxSteps := 1000000) only [go_sem, hx, encStep, step53]
    refine CallX.plain hSt ?_
    cases g1 : decide ((spentOf ⟨b, u, known⟩ t).1 ≤ b.count) <;> cases g2 : decide ((spentOf ⟨b, u, known⟩ t).2 ≤ b.value)
    all_goals
      rcases k with _ | j
      · have hk0 : decide ((0 : Int) < ((0 : Nat) : Int)) = false := by decide
        simp +contextual -implicitDefEqProofs (maxSteps := 1000000) only [go_sem, hz, hwp, hx, hw, hper, hneg0, g1, g2, hk0, fine, encStep, step53]
        constructor
        · intro h5
          have h5 : t ≤ at_ := by simpa using h5
          refine ⟨h', _, step53 b u known t, by simp only [step53, fine, g1, g2]; rfl, ?_⟩
          rw [hR]; simp [lastStep53, h5]
        · intro h5
          have h5 : ¬ t ≤ at_ := by simpa using h5
          refine ⟨h', _, R, rfl, ?_⟩
          rw [hR]; simp [lastStep53, h5]
      · have hk0 : decide ((0 : Int) < ((j + 1 : Nat) : Int)) = true := decide_eq_true (by omega)
        obtain ⟨t2, hj, hjm, hjt⟩ := hprev j rfl
        have hwj : IntKind.i64.wrap (((j + 1 : Nat) : Int) - 1) = (j : Int) := by rw [wrap_in (by omega)]; omega
        have hge : decide (t ≤ t2) = false := decide_eq_false (by omega)
        have hcc := hlt t2 t hjm htm hjt
        have hge2 : decide ((spentOf ⟨b, u, known⟩ t).1 ≤ (spentOf ⟨b, u, known⟩ t2).1) = false := decide_eq_false (by omega)
        simp +contextual -implicitDefEqProofs (maxSteps := 1000000) only [go_sem, hz, hwp, hx, hw, hper, hneg0, g1, g2, hk0, fine, encStep, step53, hj, hwj, hge, hge2]
        constructor
        · intro h5
          have h5 : t ≤ at_ := by simpa using h5
          refine ⟨h', _, step53 b u known t, by simp only [step53, fine, g1, g2]; rfl, ?_⟩
          rw [hR]; simp [lastStep53, h5]
        · intro h5
          have h5 : ¬ t ≤ at_ := by simpa using h5
          refine ⟨h', _, R, rfl, ?_⟩
          rw [hR]; simp [lastStep53, h5]
end Go.Abs.P

/- Chapter 53: the plain law of AccountsKinds. No conditions. -/
namespace Go.Abs.P

def ofKind (b : Budget) (k : Int) : Budget := { b with kind := k }
theorem counts_kind (b : Budget) (u : List Use) (known per k : Int) (x : Use) : counts ⟨ofKind b k, u, known⟩ per x = (decide (x.known ≤ known) && (decide (k < 0) || decide (k = x.kind)) && decide (IntKind.i64.wrap (x.at_.tdiv b.period) = per)) := rfl
/-- What was spent of kinds below a number. -/
def below (b : Budget) (u : List Use) (known at_ : Int) (k : Int) : List Use := u.filter fun x => decide (x.kind < k) && (counts ⟨ofKind b (-1), u, known⟩ (IntKind.i64.wrap (at_.tdiv b.period)) x && decide (x.at_ ≤ at_))
theorem total_filter_or (p q : Use → Bool) : ∀ v : List Use, (∀ x ∈ v, ¬ (p x = true ∧ q x = true)) → (v.filter p).length + (v.filter q).length = (v.filter fun x => p x || q x).length ∧ total (v.filter p) + total (v.filter q) = total (v.filter fun x => p x || q x) := split_sum p q
theorem spent_kind (b : Budget) (u : List Use) (known at_ k : Int) : spentOf ⟨ofKind b k, u, known⟩ at_ = (IntKind.i64.wrap (u.filter fun x => counts ⟨ofKind b k, u, known⟩ (IntKind.i64.wrap (at_.tdiv b.period)) x && decide (x.at_ ≤ at_)).length, IntKind.i64.wrap (total (u.filter fun x => counts ⟨ofKind b k, u, known⟩ (IntKind.i64.wrap (at_.tdiv b.period)) x && decide (x.at_ ≤ at_)))) := by
  refine spentOf_eq ⟨ofKind b k, u, known⟩ at_ _ ?_
  show _ = (u.filter _).filter _
  rw [List.filter_filter]
  refine List.filter_congr fun x _ => Bool.and_comm _ _
theorem below_step (b : Budget) (u : List Use) (known at_ : Int) (k : Int) (hk : 0 ≤ k) : IntKind.i64.wrap (IntKind.i64.wrap (below b u known at_ k).length + (spentOf ⟨ofKind b k, u, known⟩ at_).1) = IntKind.i64.wrap (below b u known at_ (k + 1)).length ∧
    IntKind.i64.wrap (IntKind.i64.wrap (total (below b u known at_ k)) + (spentOf ⟨ofKind b k, u, known⟩ at_).2) = IntKind.i64.wrap (total (below b u known at_ (k + 1))) := by
  rw [spent_kind]
  have h := split_sum (fun x : Use => decide (x.kind < k) && (counts ⟨ofKind b (-1), u, known⟩ (IntKind.i64.wrap (at_.tdiv b.period)) x && decide (x.at_ ≤ at_)))
    (fun x : Use => counts ⟨ofKind b k, u, known⟩ (IntKind.i64.wrap (at_.tdiv b.period)) x && decide (x.at_ ≤ at_)) u (fun x _ ⟨h1, h2⟩ => by
      simp only [counts_kind, Bool.and_eq_true, Bool.or_eq_true, decide_eq_true_eq] at h1 h2
      omega)
  have e : (fun x : Use => (decide (x.kind < k) && (counts ⟨ofKind b (-1), u, known⟩ (IntKind.i64.wrap (at_.tdiv b.period)) x && decide (x.at_ ≤ at_))) || (counts ⟨ofKind b k, u, known⟩ (IntKind.i64.wrap (at_.tdiv b.period)) x && decide (x.at_ ≤ at_))) =
      fun x : Use => decide (x.kind < k + 1) && (counts ⟨ofKind b (-1), u, known⟩ (IntKind.i64.wrap (at_.tdiv b.period)) x && decide (x.at_ ≤ at_)) := by
    funext x
    rw [Bool.eq_iff_iff]
    simp only [counts_kind, Bool.and_eq_true, Bool.or_eq_true, decide_eq_true_eq]
    constructor
    · rintro (⟨h1, h2⟩ | ⟨⟨⟨h1, h2⟩, h3⟩, h4⟩)
      · exact ⟨by omega, h2⟩
      · exact ⟨by omega, ⟨⟨h1, .inl (by omega)⟩, h3⟩, h4⟩
    · rintro ⟨h1, ⟨⟨h2, _⟩, h3⟩, h4⟩
      by_cases h5 : x.kind < k
      · exact .inl ⟨h5, ⟨⟨h2, .inl (by omega)⟩, h3⟩, h4⟩
      · exact .inr ⟨⟨⟨h2, .inr (by omega)⟩, h3⟩, h4⟩
  rw [e] at h
  unfold below
  refine ⟨?_, ?_⟩
  · rw [wrap_add2]; congr 1; have := h.1; omega
  · rw [wrap_add2]; congr 1; exact h.2
theorem below_0 (b : Budget) (u : List Use) (known at_ : Int) (hu : ∀ x ∈ u, x.fits = true) : below b u known at_ 0 = [] := by
  unfold below
  rw [List.filter_eq_nil_iff]
  intro x hx h
  have := fits_parts (hu x hx)
  simp only [Bool.and_eq_true, decide_eq_true_eq] at h
  omega
theorem below_16 (b : Budget) (u : List Use) (known at_ : Int) (hu : ∀ x ∈ u, x.fits = true) : spentOf ⟨ofKind b (-1), u, known⟩ at_ = (IntKind.i64.wrap (below b u known at_ 16).length, IntKind.i64.wrap (total (below b u known at_ 16))) := by
  rw [spent_kind]
  have e : (u.filter fun x => counts ⟨ofKind b (-1), u, known⟩ (IntKind.i64.wrap (at_.tdiv b.period)) x && decide (x.at_ ≤ at_)) = below b u known at_ 16 := by
    refine List.filter_congr fun x hx => ?_
    have h1 := fits_parts (hu x hx)
    have : decide (x.kind < 16) = true := decide_eq_true (by omega)
    rw [this, Bool.true_and]
  rw [e]

/-- Budgets, one of them for another kind. -/
def setKind (l : List Budget) (i : Nat) (k : Int) : List Budget := l.modify i fun b => ofKind b k
theorem setKind_right {x : Budget} (h : x.right = true) {k : Int} (hk : -1 ≤ k ∧ k ≤ 15) : (ofKind x k).right = true := by
  unfold Budget.right at h ⊢
  have : between (-1) 15 [k] = true := by simp [between]; omega
  have e1 : between (-1) 15 [(ofKind x k).kind] = true := this
  simp only [Bool.and_eq_true] at h ⊢
  exact ⟨⟨⟨⟨h.1.1.1.1, e1⟩, h.1.1.2⟩, h.1.2⟩, h.2⟩
theorem setKind_check : ∀ (l : List Budget) (i : Nat) (k last : Int), -1 ≤ k ∧ k ≤ 15 → chkFrom last l = 0 → chkFrom last (setKind l i k) = 0
  | [], i, k, last, _, h => by simpa [setKind] using h
  | x :: l, 0, k, last, hk, h => by
    have e : setKind (x :: l) 0 k = ofKind x k :: l := rfl
    rw [e, chkFrom_cons]
    rw [chkFrom_cons] at h
    split at h
    · rename_i hc
      simp only [Bool.and_eq_true, decide_eq_true_eq] at hc
      rw [if_pos (by simp only [Bool.and_eq_true, decide_eq_true_eq]; exact ⟨setKind_right hc.1 hk, hc.2⟩)]
      exact h
    · simp at h
  | x :: l, i + 1, k, last, hk, h => by
    have e : setKind (x :: l) (i + 1) k = x :: setKind l i k := rfl
    rw [e, chkFrom_cons]
    rw [chkFrom_cons] at h
    split at h
    · rename_i hc
      rw [if_pos hc]
      exact setKind_check l i k x.no hk h
    · simp at h
theorem setKind_examine {l : List Budget} {u : List Use} (h : examine l u = 0) (i : Nat) {k : Int} (hk : -1 ≤ k ∧ k ≤ 15) : examine (setKind l i k) u = 0 := by
  obtain ⟨h1, h2, h3⟩ := examine_parts h
  have hl := checkB_len h1
  have hs : (setKind l i k).length = l.length := by simp [setKind]
  unfold checkB at h1
  rw [if_neg (by omega)] at h1
  have h4 := setKind_check l i k _ hk h1
  unfold examine checkB
  rw [hs, if_neg (show ¬ 4096 < l.length by omega), h4]
  rw [if_neg (by simp), if_neg (by omega), if_pos h3]
theorem setKind_find : ∀ (l : List Budget) (i : Nat) (k no : Int) (b : Budget), findB l no = some b → (∃ j : Nat, findFrom no j l = ((j + i : Nat) : Int)) → l[i]? = some b → findB (setKind l i k) no = some (ofKind b k)
  | [], i, k, no, b, h, _, _ => by simp [findB] at h
  | x :: l, 0, k, no, b, h, ⟨j, hj⟩, hi => by
    simp at hi; subst hi
    have hc : (decide (x.no = no) && !x.gone) = true := by
      cases hcc : (decide (x.no = no) && !x.gone) with
      | true => rfl
      | false =>
        rw [findFrom_cons, hcc] at hj
        simp only [Bool.false_eq_true, if_false] at hj
        have := find_spec no l (j + 1)
        split at this <;> (try obtain ⟨q, h5, _⟩ := this) <;> omega
    show findB (ofKind x k :: l) no = _
    unfold findB
    rw [List.find?_cons_of_pos (by exact hc)]
  | x :: l, i + 1, k, no, b, h, ⟨j, hj⟩, hi => by
    have hc : (decide (x.no = no) && !x.gone) = false := by
      cases hcc : (decide (x.no = no) && !x.gone) with
      | false => rfl
      | true => rw [findFrom_cons, hcc] at hj; simp at hj; omega
    rw [findFrom_cons, hc] at hj
    simp only [Bool.false_eq_true, if_false] at hj
    have e : setKind (x :: l) (i + 1) k = x :: setKind l i k := rfl
    unfold findB at h ⊢
    rw [e, List.find?_cons_of_neg (by simp [hc])]
    rw [List.find?_cons_of_neg (by simp [hc])] at h
    exact setKind_find l i k no b h ⟨j + 1, by rw [hj]; omega⟩ (by simpa using hi)
theorem spent_setKind {l : List Budget} {u : List Use} {no at_ known : Int} {i : Nat} {b : Budget} (he : examine l u = 0) (hf : findB l no = some b) (hj : findFrom no 0 l = ((i : Nat) : Int)) (hi : l[i]? = some b) (hw : within 1099511627776 [at_, known] = true) {k : Int} (hk : -1 ≤ k ∧ k ≤ 15) :
    spentR (setKind l i k) u no at_ known = ((spentOf ⟨ofKind b k, u, known⟩ at_).1, (spentOf ⟨ofKind b k, u, known⟩ at_).2, 0) := by
  unfold spentR
  rw [if_neg (by simp [setKind_examine he i hk]), setKind_find l i k no b hf ⟨0, by rw [hj, Nat.zero_add]⟩ hi]
  simp only
  rw [if_pos hw]
end Go.Abs.P

/- Chapter 53: AccountsKinds, run. No conditions. -/
namespace Go.Abs.P
open Go.Proofs
set_option maxRecDepth 10000
variable {C : Ctx}

theorem elems_B (l : List Budget) : toElems true 8 l.length (elemCells (l.map Budget.enc)) = some (l.map Budget.enc) := by
  have := toElems_cells (g := true) (k := 8) (l.map Budget.enc) (fun x hx => by obtain ⟨b, _, rfl⟩ := List.mem_map.1 hx; exact ⟨rfl, rfl⟩)
  simpa using this
theorem cells_B (l : List Budget) : (elemCells (l.map Budget.enc)).length = l.length * 8 := by
  have := elemCells_len (k := 8) (l.map Budget.enc) (by rw [stride_B]; trivial)
  simpa using this
theorem set_B : ∀ (l : List Budget) (i : Nat) (k : Int), (elemCells (l.map Budget.enc)).set (i * 8 + 3) (.dat (.int .i64 k)) = elemCells ((setKind l i k).map Budget.enc)
  | [], i, k => by simp [elemCells, setKind]
  | x :: l, 0, k => rfl
  | x :: l, i + 1, k => by
    have e : ∀ (x : Budget) (l : List Budget), elemCells ((x :: l).map Budget.enc) = .dat (I x.no) :: .dat (I x.at_) :: .dat (I x.known) :: .dat (I x.kind) :: .dat (I x.period) :: .dat (I x.count) :: .dat (I x.value) :: .dat (.bool x.gone) :: elemCells (l.map Budget.enc) := fun _ _ => rfl
    have e2 : setKind (x :: l) (i + 1) k = x :: setKind l i k := rfl
    rw [e2, e, e, show (i + 1) * 8 + 3 = (i * 8 + 3) + 1 + 1 + 1 + 1 + 1 + 1 + 1 + 1 by omega]
    simp only [List.set_cons_succ, set_B l i k]
/-- What was spent, of budgets in an array of the caller's own. -/
theorem Spent_arr (h : In C) (l : List Budget) (u : List Use) (no at_ known : Int) (r : Ref) (S : OwnF) (hS : S r = some (.arr 8 true (elemCells (l.map Budget.enc)))) : CallV C (.dat (.fn accounts_Spent_id [] [])) [.arr r 0 l.length, .dat (.list (u.map Use.enc) false), .dat (I no), .dat (I at_), .dat (I known)] S
    (Same S (.dat (.tup [I (spentR l u no at_ known).1, I (spentR l u no at_ known).2.1, I (spentR l u no at_ known).2.2]))) := by
  refine CallV.frozen (fun C' hC => Spent_ok (C := C') ⟨hC.trans h.P⟩ l u no at_ known) rfl (fun M g w vs hrs hS' hv => ?_)
  match vs, hv with
  | [v0, v1, v2, v3, v4], hv =>
    simp only [VDl, and_true] at hv ⊢
    refine ⟨look_arr hrs (hS' r _ hS) (.inl rfl) (by rw [cells_B]; omega) (by simpa using elems_B l) hv.1, VD.mono hrs.look_le _ _ hv.2.1, VD.mono hrs.look_le _ _ hv.2.2.1, VD.mono hrs.look_le _ _ hv.2.2.2.1, VD.mono hrs.look_le _ _ hv.2.2.2.2⟩
  | [], hv => simp [VDl] at hv
  | [_], hv => simp [VDl] at hv
  | [_, _], hv => simp [VDl] at hv
  | [_, _, _], hv => simp [VDl] at hv
  | [_, _, _, _], hv => simp [VDl] at hv
  | _ :: _ :: _ :: _ :: _ :: _ :: _, hv => simp [VDl] at hv

set_option maxHeartbeats 16000000 in
theorem AccountsKinds_wp (h : In C) (l : List Budget) (hlm : l.length ≤ 9223372036854775807) (u : List Use) (no at_ known : Int) : ∀ ℓ, wp C ℓ law53_AccountsKinds.body ⟨argSlots 0 [.dat (.list (l.map Budget.enc) false), .dat (.list (u.map Use.enc) false), .dat (I no), .dat (I at_), .dat (I known)], [], noneF, 0, []⟩ (fnK law53_AccountsKinds.res (Gives (.dat (.bool true)))) := by
  intro ℓ
  unfold law53_AccountsKinds
  simp +contextual -implicitDefEqProofs (maxSteps := 1000000) only [go_sem]
  refine CallX.plain (sane_ok h) ?_
  simp +contextual -implicitDefEqProofs (maxSteps := 1000000) only [go_sem]
  refine CallX.plain (Find53_ok h l (by omega) no) ?_
  simp +contextual -implicitDefEqProofs (maxSteps := 1000000) only [go_sem]
  refine CallX.plain (right53_ok h l u [at_, known] (by simp)) ?_
  cases hr : right53 l u [at_, known] with
  | false =>
    simp +contextual -implicitDefEqProofs (maxSteps := 1000000) only [go_sem]
    exact RetNow.gives (.inr rfl)
  | true =>
  obtain ⟨ht, hl, hu, he⟩ := right53_parts hr
  simp only [List.all_cons, List.all_nil, Bool.and_true, Bool.and_eq_true] at ht
  obtain ⟨hta, htk⟩ := ht
  have hc := (examine_parts he).1
  have huf := usesFrom_fits u [] (examine_parts he).2.2
  have hwi : within 1099511627776 [at_, known] = true := by
    have h1 := isTime_in hta; have h2 := isTime_in htk
    simp only [within, List.all_cons, List.all_nil, Bool.and_true, Bool.and_eq_true, decide_eq_true_eq]; omega
  have hsp := find_spec no l 0
  cases hf : findB l no with
  | none =>
    rw [hf] at hsp
    simp only at hsp
    have hneg : decide (findFrom no 0 l < 0) = true := by rw [hsp]; decide
    simp +contextual -implicitDefEqProofs (maxSteps := 1000000) only [go_sem, hneg]
    exact RetNow.gives (.inr rfl)
  | some b =>
    rw [hf] at hsp
    obtain ⟨q, hk1, hk2⟩ := hsp
    rw [Nat.zero_add] at hk1
    have hneg : decide (((q : Nat) : Int) < 0) = false := decide_eq_false (by omega)
    have hq : q < l.length := by
      rcases Nat.lt_or_ge q l.length with h | h
      · exact h
      · rw [List.getElem?_eq_none h] at hk2; simp at hk2
    have hsk := fun k hk => spent_setKind (k := k) he hf hk1 hk2 hwi hk
    have hst := below_step b u known at_
    have h0 := below_0 b u known at_ huf
    have h16 := below_16 b u known at_ huf
    have hstr : strideOk 8 (l.map Budget.enc) = True := stride_B l
    have hn0 : (l.length = 0) = False := by simp; intro e; rw [e] at hq; simp at hq
    have hnm : (l.length ≤ mostLen) = True := by simp [mostLen]; omega
    rw [hk1]
    simp +contextual -implicitDefEqProofs (maxSteps := 1000000) only [go_sem, hneg, appCells.eq_1, hstr, hn0, hnm]
    have hlt : ((q : Int) < (l.length : Int)) = True := by simp; omega
    refine LoopW.up (some ([1, 2, 3, 4, 11, 12, 13, 14, 41], [40])) (fun k s => ∃ n l2, s = ⟨[(1, .dat (.list (u.map Use.enc) false)), (2, .dat (I no)), (3, .dat (I at_)), (4, .dat (I known)), (11, .dat (I q)), (12, .dat (I (IntKind.i64.wrap (below b u known at_ k).length))), (13, .dat (I (IntKind.i64.wrap (total (below b u known at_ k))))), (14, .arr (.v ℓ 40 0) 0 l.length), (41, .dat (I k))], [(.v ℓ 40 0, .arr 8 true (elemCells (l2.map Budget.enc)))], noneF, n, []⟩ ∧ l2.length = l.length ∧ ∀ j : Int, setKind l2 q j = setKind l q j) 16 ?_ ?_
    · simp only [go_sem]
      refine ⟨1, l, ?_, rfl, fun _ => rfl⟩
      rw [show ((0 : Nat) : Int) = 0 from rfl, h0]; rfl
    rintro k hk s ⟨n, l2, rfl, hl2, hset⟩
    have hfit : ∀ l2 : List Budget, l2.length = l.length → (q * 8 + 3 + 1 ≤ (elemCells (l2.map Budget.enc)).length) = True := fun l2 e => by rw [cells_B, e]; simp; omega
    have hsl : ∀ (l2 : List Budget) (j : Int), (setKind l2 q j).length = l2.length := fun l2 j => by simp [setKind]
    unfold law53_AccountsKinds_l0
    simp only [go_sem]
    constructor
    · intro h3
      have h' : k < 16 := by simp at h3; omega
      have hw : IntKind.i64.wrap ((k : Int) + 1) = ((k + 1 : Nat) : Int) := wrap_in (by omega)
      have hSp := fun S hS => Spent_arr h (setKind l q k) u no at_ known (.v ℓ 40 0) S hS
      rw [hsk (k : Int) (by omega), hsl] at hSp
      obtain ⟨hs1, hs2⟩ := hst (k : Int) (by omega)
      simp +contextual -implicitDefEqProofs (maxSteps := 1000000) only [go_sem, hlt, hfit l2 hl2, set_B, hset]
      refine CallX.same rfl (hSp _ (by simp only [go_sem])) ?_
      simp +contextual -implicitDefEqProofs (maxSteps := 1000000) only [go_sem, hs1, hs2, hw]
      refine ⟨h', _, setKind l q k, rfl, hsl _ _, fun j => ?_⟩
      simp only [setKind, List.modify_modify_eq]; rfl
    · intro h3
      have hk16 : k = 16 := by simp at h3; omega
      subst hk16
      have hSp := fun S hS => Spent_arr h (setKind l q (-1)) u no at_ known (.v ℓ 40 0) S hS
      rw [hsk (-1) (by omega), hsl, h16] at hSp
      simp +contextual -implicitDefEqProofs (maxSteps := 1000000) only [go_sem, hlt, hfit l2 hl2, set_B, hset]
      refine CallX.same rfl (hSp _ (by simp only [go_sem])) ?_
      simp +contextual -implicitDefEqProofs (maxSteps := 1000000) only [go_sem]
      refine RetNow.gives (.inr ?_)
      simp
end Go.Abs.P

/- Chapter 53: room in budgets. No conditions. -/
namespace Go.Abs.P
open Go.Proofs
set_option maxRecDepth 10000
variable {C : Ctx}

theorem fits_between (x : Use) : x.fits = (between 0 4095 [x.doc] && between 0 15 [x.kind] && between 0 1099511627776 [x.value] && between 0 1099511627775 [x.at_, x.known]) := by
  rw [Bool.eq_iff_iff]
  simp only [Use.fits, within, between, List.all_cons, List.all_nil, Bool.and_true, Bool.and_eq_true, decide_eq_true_eq]
  omega

theorem uses_ok (h : In C) (u : List Use) (hu : u.length ≤ 4096) : CallV C (.dat (.fn budgets_uses_id [] [])) [.dat (.list (u.map Use.enc) false)] noneF (Gives (.dat (.bool (usesFrom [] u)))) := by
  refine h.call budgets_uses_ok (Nat.le_of_ble_eq_true rfl) fun ℓ hS _ => ?_
  unfold budgets_uses
  simp +contextual -implicitDefEqProofs only [go_sem]
  refine LoopW.up (some ([3, 7, 8, 9], [6])) (fun i s => ∃ n met, s = ⟨[(3, .map (.v ℓ 6 0)), (7, .dat (.list (u.map Use.enc) false)), (8, .dat (I u.length)), (9, .dat (I i))], [(.v ℓ 6 0, .map (encM (metM met)))], noneF, n, []⟩ ∧ usesFrom [] u = usesFrom met (u.drop i)) u.length ?_ ?_
  · simp only [go_sem]
    exact ⟨1, [], rfl, rfl⟩
  · rintro i hi s ⟨n, met, rfl, hall⟩
    unfold budgets_uses_l0
    simp only [go_sem]
    constructor
    · intro h3
      have h' : i < u.length := by simpa using h3
      have hx := List.getElem?_eq_getElem h'
      have hd := List.drop_eq_getElem_cons h'
      generalize u[i] = x at hx hd
      have hw : IntKind.i64.wrap ((i : Int) + 1) = ((i + 1 : Nat) : Int) := wrap_in (by omega)
      rw [hd, usesFrom_cons, fits_between] at hall
      have hg : getM x.doc (metM met) = bif met.contains x.doc then some (.dat (.bool true)) else none := by
        rw [getM_met]; by_cases hm : x.doc ∈ met <;> simp [hm]
      simp +contextual -implicitDefEqProofs only [go_sem, hx, hw, hg]
      refine gcall_f ?_ (fun e => ?_) ?_; rotate_left
      · simp only [go_sem, e]; exact between_ok h 0 4095 [x.doc] (by simp)
      simp +contextual -implicitDefEqProofs only [go_sem]
      refine gcall_f ?_ (fun e => ?_) ?_; rotate_left
      · simp only [go_sem, e]; exact between_ok h 0 15 [x.kind] (by simp)
      simp +contextual -implicitDefEqProofs only [go_sem]
      refine gcall_f ?_ (fun e => ?_) ?_; rotate_left
      · simp only [go_sem, e]; exact between_ok h 0 1099511627776 [x.value] (by simp)
      simp +contextual -implicitDefEqProofs only [go_sem]
      refine gcall_f ?_ (fun e => ?_) ?_; rotate_left
      · simp only [go_sem, e]; exact between_ok h 0 1099511627775 [x.at_, x.known] (by simp)
      simp +contextual -implicitDefEqProofs only [go_sem, hg, hw]
      have hf : ∀ z : Bool, (met.contains x.doc || !between 0 4095 [x.doc] || !between 0 15 [x.kind] || !between 0 1099511627776 [x.value] || !between 0 1099511627775 [x.at_, x.known]) = z → (between 0 4095 [x.doc] && between 0 15 [x.kind] && between 0 1099511627776 [x.value] && between 0 1099511627775 [x.at_, x.known] && !met.contains x.doc) = !z := by
        rintro z rfl
        cases met.contains x.doc <;> cases between 0 4095 [x.doc] <;> cases between 0 15 [x.kind] <;> cases between 0 1099511627776 [x.value] <;> cases between 0 1099511627775 [x.at_, x.known] <;> rfl
      constructor
      · intro h4
        refine RetNow.gives (.inr ?_)
        rw [hall, hf _ h4]; rfl
      · intro h4
        have h5 := hf _ h4
        have hm : x.doc ∉ met := by simp at h5; exact h5.2
        rw [putM_met _ _ hm]
        refine ⟨h', _, met ++ [x.doc], rfl, ?_⟩
        rw [hall, h5]; rfl
    · intro h3
      refine RetNow.gives (.inr ?_)
      rw [hall, List.drop_eq_nil_of_le (by simpa using h3)]; rfl

/-- Does a use count? -/
def usedP (b : Budget) (at_ known : Int) (x : Use) : Bool := decide (x.known ≤ known) && (decide (b.kind = -1) || decide (b.kind = x.kind)) && decide (IntKind.i64.wrap (x.at_.tdiv b.period) = IntKind.i64.wrap (at_.tdiv b.period))
def Budget.cells (b : Budget) : List D := [.dat (I b.no), .dat (I b.at_), .dat (I b.known), .dat (I b.kind), .dat (I b.period), .dat (I b.count), .dat (I b.value), .dat (.bool b.gone)]
attribute [go_sem] Budget.cells

theorem used1_ok (h : In C) (b : Budget) (u : List Use) (hb : u.length ≤ 4096) (hp : b.period ≠ 0) (at_ known : Int) (ru rk rb ra : Ref) (K : OwnF) (hKu : K ru = some (.cells [.dat (.list (u.map Use.enc) false)])) (hKk : K rk = some (.cells [.dat (I known)])) (hKb : K rb = some (.cells b.cells)) (hKa : K ra = some (.cells [.dat (I at_)])) :
    IterV C (.fn budgets_used_1_id [] [.ptr ru 0, .ptr rk 0, .ptr rb 0, .ptr ra 0]) K (fun X => X = (u.filter (usedP b at_ known)).map fun x => [.dat (I x.value)]) := by
  intro y S Q hdis hrun
  have hrun := hrun _ rfl
  refine h.callc budgets_used_1_ok (Nat.le_of_ble_eq_true rfl) fun ℓ hS _ => ?_
  have hSl : ∀ s i, S (.v ℓ s i) = none := fun s i => by
    have := hS s i; unfold orF at this; split at this
    · simp at this
    · assumption
  have hKl : ∀ s i, K (.v ℓ s i) = none := fun s i => by
    have := hS s i; unfold orF at this; rw [hSl s i] at this; exact this
  have n1 : ∀ s i, Ref.same (.v ℓ s i) ru = false := not_same hKl hKu
  have n2 : ∀ s i, Ref.same (.v ℓ s i) rk = false := not_same hKl hKk
  have n3 : ∀ s i, Ref.same (.v ℓ s i) rb = false := not_same hKl hKb
  have n4 : ∀ s i, Ref.same (.v ℓ s i) ra = false := not_same hKl hKa
  have hd1 : S ru = none := hdis ru (by rw [hKu]; simp)
  unfold budgets_used_1
  simp +contextual -implicitDefEqProofs only [go_sem, orF, hd1, hKu]
  refine LoopW.up (some ([0, 2, 3, 4, 8, 9, 10], [])) (fun i s => ∃ n S', s = ⟨[(0, y), (2, .ptr rk 0), (3, .ptr rb 0), (4, .ptr ra 0), (8, .dat (.list (u.map Use.enc) false)), (9, .dat (I u.length)), (10, .dat (I i))], [], orF S' K, n, []⟩ ∧ (∀ r, K r ≠ none → S' r = none) ∧ (∀ s i, n ≤ i → S' (.v ℓ s i) = none) ∧ RunV C y (((u.drop i).filter (usedP b at_ known)).map fun x => [.dat (I x.value)]) S' Q) u.length ?_ ?_
  · simp only [go_sem]
    exact ⟨0, S, rfl, hdis, fun s i _ => hSl s i, hrun⟩
  · rintro i hi s ⟨n, S', rfl, hdis', hfr, hrun'⟩
    have or_ : ∀ r z, K r = some z → orF S' K r = some z := fun r z e => by unfold orF; rw [hdis' r (by rw [e]; simp)]; exact e
    have ho2 := or_ _ _ hKk
    have ho3 := or_ _ _ hKb
    have ho4 := or_ _ _ hKa
    unfold budgets_used_1_l0
    simp only [go_sem]
    constructor
    · intro h1
      have h' : i < u.length := by simpa using h1
      have hx := List.getElem?_eq_getElem h'
      have hd := List.drop_eq_getElem_cons h'
      generalize u[i] = x at hx hd
      have hw : IntKind.i64.wrap ((i : Int) + 1) = ((i + 1 : Nat) : Int) := wrap_in (by omega)
      rw [hd] at hrun'
      simp +contextual -implicitDefEqProofs only [go_sem, hx, hw, n2, n3, n4, ho2, ho3, ho4, hp]
      cases hc : usedP b at_ known x
      · have hc' := hc
        unfold usedP at hc'
        rw [List.filter_cons, hc] at hrun'
        simp +contextual -implicitDefEqProofs only [go_sem, hc', hw]
        exact ⟨h', _, S', rfl, hdis', fun s i hi => hfr s i (by omega), hrun'⟩
      · have hc' := hc
        unfold usedP at hc'
        rw [List.filter_cons, hc] at hrun'
        simp +contextual -implicitDefEqProofs only [go_sem, hc', hw]
        refine CallX.yield hrun' rfl hdis' ?_ ?_ ?_ ?_
        · intro r hr
          obtain ⟨z, hz⟩ := has_iff hr
          simp only [ownGet] at hz
          cases e : Ref.same (.v ℓ 7 n) r with
          | false => rw [e] at hz; simp at hz
          | true =>
            rw [e] at hz
            simp only [cond_true] at hz
            split at hz
            · rename_i e2; rw [← e2]; exact hfr _ _ (Nat.le_refl _)
            · simp at hz
        · intro S2 g1 g2 g3
          simp +contextual -implicitDefEqProofs only [go_sem, hw]
          exact ⟨h', _, S2, rfl, g1, g2, g3⟩
        · intro S2 g1 g2
          simp +contextual -implicitDefEqProofs only [go_sem, hw]
          exact ⟨.dat (.tup []), orF S2 K, D.le.refl _, fun r b e => .inr e, S2, rfl, g1, g2⟩
        · intro d S2 g1 g2
          simp +contextual -implicitDefEqProofs only [go_sem, hw]
          exact ⟨rfl, orF S2 K, fun r b e => .inr e, S2, rfl, g1, g2⟩
    · intro h1
      simp only [List.drop_eq_nil_of_le (show u.length ≤ i by simpa using h1), List.filter_nil, List.map_nil, RunV] at hrun'
      exact ⟨.dat (.tup []), orF S' K, D.le.refl _, fun r b e => .inr e, S', rfl, hdis', hrun'⟩

theorem used_ok (h : In C) (b : Budget) (u : List Use) (at_ known : Int) : CallV C (.dat (.fn budgets_used_id [] [])) [.dat b.enc, .dat (.list (u.map Use.enc) false), .dat (I at_), .dat (I known)] noneF
    (fun r S' => ∃ d, r = .ret d ∧ ∃ ru rk rb ra, d = .fn budgets_used_1_id [] [.ptr ru 0, .ptr rk 0, .ptr rb 0, .ptr ra 0] ∧ S' ru = some (.cells [.dat (.list (u.map Use.enc) false)]) ∧ S' rk = some (.cells [.dat (I known)]) ∧ S' rb = some (.cells b.cells) ∧ S' ra = some (.cells [.dat (I at_)])) := by
  refine h.call budgets_used_ok (Nat.le_of_ble_eq_true rfl) fun ℓ hS _ => ?_
  unfold budgets_used
  simp +contextual -implicitDefEqProofs only [go_sem]
  refine ⟨_, ownGet [(.v ℓ 4 0, .cells b.cells), (.v ℓ 5 1, .cells [.dat (.list (u.map Use.enc) false)]), (.v ℓ 6 2, .cells [.dat (I at_)]), (.v ℓ 7 3, .cells [.dat (I known)])], D.le.refl _, fun r z e => .inl e, _, rfl, .v ℓ 5 1, .v ℓ 7 3, .v ℓ 4 0, .v ℓ 6 2, rfl, ?_, ?_, ?_, ?_⟩
  all_goals simp only [go_sem]

def addV (c v : Int) : List Use → Int × Int
  | [] => (c, v)
  | x :: l => addV (IntKind.i64.wrap (c + 1)) (IntKind.i64.wrap (v + x.value)) l
def roomSum (u : List Use) (value at_ known : Int) (b : Budget) : Int × Int := addV 1 value (u.filter (usedP b at_ known))
def roomAt (u : List Use) (value at_ known : Int) : List Budget → Int × Bool
  | [] => (-1, true)
  | b :: l => if decide (b.count < (roomSum u value at_ known b).1) || decide (b.value < (roomSum u value at_ known b).2) then (b.no, false) else roomAt u value at_ known l
theorem roomAt_cons (u : List Use) (value at_ known : Int) (b : Budget) (l : List Budget) : roomAt u value at_ known (b :: l) = if decide (b.count < (roomSum u value at_ known b).1) || decide (b.value < (roomSum u value at_ known b).2) then (b.no, false) else roomAt u value at_ known l := rfl

set_option maxHeartbeats 4000000 in
/-- Room, where all is right. -/
theorem Room_ok (h : In C) (l : List Budget) (u : List Use) (kind value at_ known : Int) (he : examine l u = 0) (hk : 0 ≤ kind ∧ kind < 16) (hv : 0 ≤ value ∧ value < 1099511627777) (ha : 0 ≤ at_ ∧ at_ < 1099511627776) (hn : 0 ≤ known ∧ known < 1099511627776) :
    CallV C (.dat (.fn budgets_Room_id [] [])) [.dat (.list (l.map Budget.enc) false), .dat (.list (u.map Use.enc) false), .dat (I kind), .dat (I value), .dat (I at_), .dat (I known)] noneF
    (Gives (.dat (.tup [I (roomAt u value at_ known (standing l kind at_ known)).1, .bool (roomAt u value at_ known (standing l kind at_ known)).2, I 0]))) := by
  obtain ⟨hc, hu, huf⟩ := examine_parts he
  have hl := checkB_len hc
  refine h.call budgets_Room_ok (Nat.le_of_ble_eq_true rfl) fun ℓ hS _ => ?_
  unfold budgets_Room
  simp +contextual -implicitDefEqProofs (maxSteps := 1000000) only [go_sem]
  have h1 := Check_ok h l
  rw [hc] at h1
  refine CallX.plain h1 ?_
  have g1 : decide ((4096 : Int) < (u.length : Int)) = false := decide_eq_false (by omega)
  simp +contextual -implicitDefEqProofs (maxSteps := 1000000) only [go_sem, g1]
  have h2 := uses_ok h u hu
  rw [huf] at h2
  refine CallX.plain h2 ?_
  simp +contextual -implicitDefEqProofs (maxSteps := 1000000) only [go_sem]
  have b1 := between_ok h 0 15 [kind] (by simp)
  rw [show between 0 15 [kind] = true by simp [between]; omega] at b1
  refine CallX.plain b1 ?_
  simp +contextual -implicitDefEqProofs (maxSteps := 1000000) only [go_sem]
  have b2 := between_ok h 0 1099511627776 [value] (by simp)
  rw [show between 0 1099511627776 [value] = true by simp [between]; omega] at b2
  refine CallX.plain b2 ?_
  simp +contextual -implicitDefEqProofs (maxSteps := 1000000) only [go_sem]
  have b3 := between_ok h 0 1099511627775 [at_, known] (by simp)
  rw [show between 0 1099511627775 [at_, known] = true by simp [between]; omega] at b3
  refine CallX.plain b3 ?_
  simp +contextual -implicitDefEqProofs (maxSteps := 1000000) only [go_sem]
  refine CallX.plain (standing_ok h l hl kind at_ known) ?_
  have hsub := standing_sub l kind at_ known
  have hZl : (standing l kind at_ known).length ≤ l.length := List.length_filter_le _ _
  generalize standing l kind at_ known = Z at *
  simp +contextual -implicitDefEqProofs (maxSteps := 1000000) only [go_sem]
  refine LoopW.up (some ([1, 3, 4, 5, 53, 54, 55], [])) (fun i s => ∃ n, s = ⟨[(1, .dat (.list (u.map Use.enc) false)), (3, .dat (I value)), (4, .dat (I at_)), (5, .dat (I known)), (53, .dat (.list (Z.map Budget.enc) false)), (54, .dat (I Z.length)), (55, .dat (I i))], [], noneF, n, []⟩ ∧ roomAt u value at_ known Z = roomAt u value at_ known (Z.drop i)) Z.length ?_ ?_
  · simp only [go_sem]
    exact ⟨_, rfl⟩
  · rintro i hi s ⟨n, rfl, hall⟩
    unfold budgets_Room_l1
    simp only [go_sem]
    constructor
    rotate_left
    · intro h3
      rw [List.drop_eq_nil_of_le (by simpa using h3)] at hall
      refine RetNow.gives (.inr ?_)
      rw [hall]; rfl
    intro h3
    have h' : i < Z.length := by simpa using h3
    have hx := List.getElem?_eq_getElem h'
    have hd := List.drop_eq_getElem_cons h'
    have hm : Z[i] ∈ Z := List.getElem_mem h'
    generalize Z[i] = b at hx hd hm
    have hw : IntKind.i64.wrap ((i : Int) + 1) = ((i + 1 : Nat) : Int) := wrap_in (by omega)
    have hbp := (right_parts (checkB_right hc b (hsub b hm))).2.2.2.2
    rw [hd, roomAt_cons] at hall
    simp +contextual -implicitDefEqProofs (maxSteps := 1000000) only [go_sem, hx, hw]
    refine CallX.new (used_ok h b u at_ known) ?_
    rintro d S' ⟨ru, rk, rb, ra, rfl, q1, q2, q3, q4⟩ hb'
    simp +contextual -implicitDefEqProofs (maxSteps := 1000000) only [go_sem, orF_none]
    refine RangeW.up [17, 18, 19] (fun rest s => ∃ (m : Nat) (c v : Int) (us : List Use), s = ⟨[(1, .dat (.list (u.map Use.enc) false)), (3, .dat (I value)), (4, .dat (I at_)), (5, .dat (I known)), (17, .ptr (.v ℓ 17 n) 0), (18, .ptr (.v ℓ 18 (n + 1)) 0), (19, .ptr (.v ℓ 19 (n + 1 + 1)) 0), (53, .dat (.list (Z.map Budget.enc) false)), (54, .dat (I Z.length)), (55, .dat (I i)), (64, .fn budgets_used_1_id [] [.ptr ru 0, .ptr rk 0, .ptr rb 0, .ptr ra 0])], [(.v ℓ 17 n, .cells [.dat (I b.no), .dat (I b.at_), .dat (I b.known), .dat (I b.kind), .dat (I b.period), .dat (I b.count), .dat (I b.value), .dat (.bool b.gone)]), (.v ℓ 18 (n + 1), .cells [.dat (I c)]), (.v ℓ 19 (n + 1 + 1), .cells [.dat (I v)])], noneF, m, []⟩ ∧ rest = us.map (fun x => [.dat (I x.value)]) ∧ roomSum u value at_ known b = addV c v us) ?_ (used1_ok h b u hu (by omega) at_ known ru rk rb ra S' q1 q2 q3 q4) ?_ ?_ ?_
    · intro r hr
      exact hb'.keys r rfl (.inl hr)
    · rintro xs rfl
      simp only [go_sem]
      exact ⟨_, 1, value, _, rfl, rfl, rfl⟩
    · rintro x rest s ⟨m, c, v, us, rfl, hx, hs⟩
      cases us with
      | nil => simp at hx
      | cons x us =>
        simp only [List.map_cons, List.cons.injEq] at hx
        obtain ⟨rfl, rfl⟩ := hx
        refine ⟨rfl, ?_⟩
        unfold budgets_Room_a0 budgets_Room_b0
        simp +contextual -implicitDefEqProofs (maxSteps := 1000000) only [go_sem]
        exact ⟨_, _, _, us, rfl, rfl, hs⟩
    · rintro s ⟨m, c, v, us, rfl, hx, hs⟩
      cases us with
      | cons x us => simp at hx
      | nil =>
        rw [hs] at hall
        have hall : roomAt u value at_ known Z = if decide (b.count < c) || decide (b.value < v) then (b.no, false) else roomAt u value at_ known (Z.drop (i + 1)) := hall
        cases g1 : decide (b.count < c) <;> cases g2 : decide (b.value < v)
        all_goals
          rw [g1, g2] at hall
          simp +contextual -implicitDefEqProofs (maxSteps := 1000000) only [go_sem, g1, g2, hw]
        case false.false =>
          exact ⟨h', _, rfl, by rw [hall]; rfl⟩
        all_goals
          exact RetNow.gives (.inr (by rw [hall]; rfl))
end Go.Abs.P

/- Chapter 53: the plain law of AccountsNever. No conditions. -/
import Derived.Test.YtedaolnhkjjfhaaA5
set_option linter.unusedVariables false
set_option linter.unusedSimpArgs false
set_option linter.unnecessarySimpa false
namespace Go.Abs.P

/-- No budget is overspent. -/
def NoOver (l : List Budget) (S : List Use) (known : Int) : Prop := ∀ y ∈ S, ∀ b ∈ standing18 l y.kind y.at_ known, fine b (spentOf ⟨b, S, known⟩ y.at_).1 (spentOf ⟨b, S, known⟩ y.at_).2 = true
theorem addV_eq : ∀ (l : List Use) (c v : Int), addV c v l = addUp c v l
  | [], _, _ => rfl
  | x :: l, c, v => addV_eq l _ _
theorem usedP_eq {b : Budget} (hk : -1 ≤ b.kind) (S : List Use) (at_ known : Int) : usedP b at_ known = counts ⟨b, S, known⟩ (IntKind.i64.wrap (at_.tdiv b.period)) := by
  funext x
  have : decide (b.kind = -1) = decide (b.kind < 0) := by rw [decide_eq_decide]; omega
  simp only [usedP, counts, this]
theorem roomSum_eq {b : Budget} (hk : -1 ≤ b.kind) (S : List Use) (at_ known value : Int) (hv : 0 ≤ value ∧ value < 1099511627777) : roomSum S value at_ known b = (IntKind.i64.wrap (1 + (S.filter (counts ⟨b, S, known⟩ (IntKind.i64.wrap (at_.tdiv b.period)))).length), IntKind.i64.wrap (value + total (S.filter (counts ⟨b, S, known⟩ (IntKind.i64.wrap (at_.tdiv b.period)))))) := by
  unfold roomSum
  rw [addV_eq, usedP_eq hk S]
  have := addUp_eq (S.filter (counts ⟨b, S, known⟩ (IntKind.i64.wrap (at_.tdiv b.period)))) 1 value
  rw [show IntKind.i64.wrap 1 = 1 from by decide, wrap_in (by omega)] at this
  exact this
theorem total_app (a b : List Use) : total (a ++ b) = total a + total b := by simp [total]

theorem standing_kind {l : List Budget} {n m at_ known : Int} {b : Budget} (h : b ∈ standing18 l n at_ known) (hk : b.kind = -1 ∨ b.kind = m) : b ∈ standing18 l m at_ known := by
  obtain ⟨h1, h2⟩ := List.mem_filter.1 h
  refine List.mem_filter.2 ⟨h1, ?_⟩
  simp only [pick18, Bool.and_eq_true] at h2 ⊢
  exact ⟨by rcases hk with e | e <;> simp [e], h2.2⟩
theorem standing_kinds {l : List Budget} {n at_ known : Int} {b : Budget} (h : b ∈ standing18 l n at_ known) : b ∈ l ∧ (b.kind = -1 ∨ b.kind = n) := by
  obtain ⟨h1, h2⟩ := List.mem_filter.1 h
  simp only [pick18, Bool.and_eq_true, Bool.or_eq_true, decide_eq_true_eq] at h2
  exact ⟨h1, h2.1⟩

/-- What one more use adds. -/
theorem spent_more {b : Budget} {S : List Use} {x : Use} {known : Int} (hb : b.right = true) (hv : 0 ≤ x.value ∧ x.value < 1099511627777) (hx : x.known ≤ known) (hk : b.kind = -1 ∨ b.kind = x.kind) (hs : ∀ y ∈ S, y.at_ ≤ x.at_) :
    spentOf ⟨b, S ++ [x], known⟩ x.at_ = roomSum S x.value x.at_ known b := by
  have hp := right_parts hb
  rw [roomSum_eq (by omega) S x.at_ known x.value hv]
  rw [spentOf_eq ⟨b, S ++ [x], known⟩ x.at_ (S.filter (counts ⟨b, S, known⟩ (IntKind.i64.wrap (x.at_.tdiv b.period))) ++ [x])]
  · simp only [List.length_append, List.length_cons, List.length_nil, total_app]
    have e1 : (((S.filter (counts ⟨b, S, known⟩ (IntKind.i64.wrap (x.at_.tdiv b.period)))).length + (0 + 1) : Nat) : Int) = 1 + ((S.filter (counts ⟨b, S, known⟩ (IntKind.i64.wrap (x.at_.tdiv b.period)))).length : Int) := by omega
    have e2 : total (S.filter (counts ⟨b, S, known⟩ (IntKind.i64.wrap (x.at_.tdiv b.period)))) + total [x] = x.value + total (S.filter (counts ⟨b, S, known⟩ (IntKind.i64.wrap (x.at_.tdiv b.period)))) := by simp [total]; omega
    rw [e1, e2]
  · have hc : counts ⟨b, S ++ [x], known⟩ (IntKind.i64.wrap (x.at_.tdiv b.period)) x = true := by
      simp only [counts, Bool.and_eq_true, Bool.or_eq_true, decide_eq_true_eq]
      exact ⟨⟨hx, by omega⟩, trivial⟩
    show _ = ((S ++ [x]).filter _).filter _
    rw [List.filter_append, List.filter_append]
    congr 1
    · show S.filter (counts ⟨b, S ++ [x], known⟩ _) = (S.filter (counts ⟨b, S ++ [x], known⟩ _)).filter _
      rw [List.filter_filter]
      refine List.filter_congr fun y hy => ?_
      have : decide (y.at_ ≤ x.at_) = true := decide_eq_true (hs y hy)
      rw [this, Bool.true_and]
    · rw [List.filter_cons, if_pos hc]; simp
/-- What does not count, or comes later, adds nothing. -/
theorem spent_same {b : Budget} {S : List Use} {x : Use} {known t : Int} (h : (b.kind < 0 ∨ b.kind = x.kind) → t < x.at_) : spentOf ⟨b, S ++ [x], known⟩ t = spentOf ⟨b, S, known⟩ t := by
  rw [spentOf_eq ⟨b, S, known⟩ t _ rfl, spentOf_eq ⟨b, S ++ [x], known⟩ t ((S.filter (counts ⟨b, S, known⟩ (IntKind.i64.wrap (t.tdiv b.period)))).filter fun x => decide (x.at_ ≤ t))]
  show _ = ((S ++ [x]).filter _).filter _
  rw [List.filter_append, List.filter_append]
  have : List.filter (fun x => decide (x.at_ ≤ t)) ([x].filter (counts ⟨b, S ++ [x], known⟩ (IntKind.i64.wrap (t.tdiv b.period)))) = [] := by
    rw [List.filter_filter, List.filter_eq_nil_iff]
    intro y hy
    simp only [List.mem_singleton] at hy; subst hy
    simp only [counts, Bool.and_eq_true, Bool.or_eq_true, decide_eq_true_eq]
    rintro ⟨h1, ⟨_, h2⟩, _⟩
    have := h h2
    omega
  rw [this, List.append_nil]; rfl

theorem room_all {S : List Use} {value at_ known : Int} : ∀ {Z : List Budget}, (roomAt S value at_ known Z).2 = true → ∀ b ∈ Z, fine b (roomSum S value at_ known b).1 (roomSum S value at_ known b).2 = true
  | [], _, b, hb => by simp at hb
  | a :: Z, h, b, hb => by
    rw [roomAt_cons] at h
    split at h
    · simp at h
    · rename_i hc
      rcases List.mem_cons.1 hb with rfl | hb
      · simp only [Bool.or_eq_true, decide_eq_true_eq, not_or] at hc
        simp only [fine, Bool.and_eq_true, decide_eq_true_eq]; omega
      · exact room_all h b hb
theorem room_some {S : List Use} {value at_ known : Int} : ∀ {Z : List Budget}, (roomAt S value at_ known Z).2 = false → ∃ b ∈ Z, fine b (roomSum S value at_ known b).1 (roomSum S value at_ known b).2 = false
  | [], h => by simp [roomAt] at h
  | a :: Z, h => by
    rw [roomAt_cons] at h
    split at h
    · rename_i hc
      refine ⟨a, by simp, ?_⟩
      simp only [Bool.or_eq_true, decide_eq_true_eq] at hc
      simp only [fine, Bool.and_eq_false_iff, decide_eq_false_iff_not]; omega
    · obtain ⟨b, hb, h1⟩ := room_some h
      exact ⟨b, by simp [hb], h1⟩

/-- Room: then nothing is overspent. -/
theorem never_yes {l : List Budget} {S : List Use} {x : Use} {known : Int} (hc : checkB l = 0) (hf : x.fits = true) (hx : x.known ≤ known) (hs : ∀ y ∈ S, y.at_ ≤ x.at_) (hn : NoOver l S known) (hr : (roomAt S x.value x.at_ known (standing18 l x.kind x.at_ known)).2 = true) : NoOver l (S ++ [x]) known := by
  have hv := (fits_parts hf).2.2.1
  have key : ∀ b ∈ standing18 l x.kind x.at_ known, fine b (spentOf ⟨b, S ++ [x], known⟩ x.at_).1 (spentOf ⟨b, S ++ [x], known⟩ x.at_).2 = true := by
    intro b hb
    obtain ⟨hbl, hbk⟩ := standing_kinds hb
    rw [spent_more (checkB_right hc b hbl) hv hx hbk hs]
    exact room_all hr b hb
  intro y hy b hb
  rcases List.mem_append.1 hy with hy | hy
  · obtain ⟨hbl, hbk⟩ := standing_kinds hb
    have hbp := right_parts (checkB_right hc b hbl)
    have hle := hs y hy
    by_cases hcnt : (b.kind < 0 ∨ b.kind = x.kind) ∧ ¬ y.at_ < x.at_
    · have e : y.at_ = x.at_ := by omega
      rw [e] at hb ⊢
      exact key b (standing_kind hb (by omega))
    · rw [spent_same (x := x) (fun h => by
        rcases Classical.em (y.at_ < x.at_) with h2 | h2
        · exact h2
        · exact absurd ⟨h, h2⟩ hcnt)]
      exact hn y hy b hb
  · simp only [List.mem_singleton] at hy; subst hy
    exact key b hb

theorem over_nil {l : List Budget} {S : List Use} {known : Int} (he : examine l S = 0) (ht : isTime known = true) (h : NoOver l S known) : overR l S known = ([], 0) := by
  have hc := (examine_parts he).1
  unfold overR
  rw [if_neg (by simp [he]), if_pos (by simpa [within, isTime] using ht)]
  have : overB l S known = [] := by
    refine List.eq_nil_iff_forall_not_mem.2 fun k hk => ?_
    unfold overB at hk
    rw [bad_mem] at hk
    rcases hk with hk | ⟨y, hy, _, b, hb, hf, _⟩
    · simp at hk
    · rw [standing_eq hc] at hb
      rw [h y hy b hb] at hf; simp at hf
  rw [this]; simp [sortI]
/-- No room: then it would be too much. -/
theorem over_some {l : List Budget} {S : List Use} {x : Use} {known : Int} (he : examine l (S ++ [x]) = 0) (ht : isTime known = true) (hf : x.fits = true) (hx : x.known ≤ known) (hs : ∀ y ∈ S, y.at_ ≤ x.at_) (hr : (roomAt S x.value x.at_ known (standing18 l x.kind x.at_ known)).2 = false) :
    ∃ a N, overR l (S ++ [x]) known = (a :: N, 0) := by
  have hc := (examine_parts he).1
  obtain ⟨b, hb, hbf⟩ := room_some hr
  obtain ⟨hbl, hbk⟩ := standing_kinds hb
  rw [← spent_more (checkB_right hc b hbl) (fits_parts hf).2.2.1 hx hbk hs] at hbf
  have hm : b.no ∈ (over53R l (S ++ [x]) known).1 := by
    rw [← overR_eq]
    unfold overR
    rw [if_neg (by simp [he]), if_pos (by simpa [within, isTime] using ht)]
    have : b.no ∈ overB l (S ++ [x]) known := by
      unfold overB
      rw [bad_mem]
      exact .inr ⟨x, by simp, by omega, b, by rw [standing_eq hc]; exact hb, hbf, rfl⟩
    exact (List.mem_mergeSort).2 this
  have h2 : (over53R l (S ++ [x]) known).2 = 0 := by unfold over53R; rw [if_neg (by simp [he]), if_pos ht]
  rw [overR_eq]
  generalize over53R l (S ++ [x]) known = R at hm h2
  obtain ⟨N, e⟩ := R
  simp only at hm h2
  subst h2
  cases N with
  | nil => simp at hm
  | cons a N => exact ⟨a, N, rfl⟩
/-- A use, as known at a time. -/
def knownAt (known : Int) (x : Use) : Use := { x with known := if known < x.known then known else x.known }
theorem knownAt_fits {x : Use} {known : Int} (h : x.fits = true) (hk : 0 ≤ known ∧ known < 1099511627776) : (knownAt known x).fits = true ∧ (knownAt known x).known ≤ known := by
  have := fits_parts h
  refine ⟨?_, by unfold knownAt; simp only; split <;> omega⟩
  simp only [Use.fits, within, knownAt, List.all_cons, List.all_nil, Bool.and_true, Bool.and_eq_true, decide_eq_true_eq]
  split <;> omega
structure NInv (l : List Budget) (known : Int) (A : List Use) (j : Nat) (S : List Use) : Prop where
  len : S.length ≤ j
  fits : ∀ y ∈ S, y.fits = true
  docs : (S.map (·.doc)).Sublist ((A.take j).map (·.doc))
  ats : ∀ y ∈ S, ∀ z ∈ A.drop j, y.at_ ≤ z.at_
  none : NoOver l S known
structure NSet (l : List Budget) (known : Int) (A : List Use) : Prop where
  chk : checkB l = 0
  len : A.length ≤ 20
  fits : ∀ y ∈ A, y.fits = true
  docs : (A.map (·.doc)).Nodup
  sorted : A.Pairwise fun a b => a.at_ ≤ b.at_
theorem NInv.examine {l : List Budget} {known : Int} {A S : List Use} {j : Nat} (h : NInv l known A j S) (hA : NSet l known A) : examine l S = 0 := by
  have h1 : S.length ≤ A.length := by
    have := h.docs.length_le
    simp only [List.length_map, List.length_take] at this; omega
  have := hA.len
  unfold Go.Abs.P.examine
  rw [if_neg (by simp [hA.chk]), if_neg (by omega), if_pos]
  refine (usesFrom_iff S [] (by simp)).2 ⟨h.fits, ?_⟩
  rw [List.nil_append]
  exact (h.docs.trans ((List.take_sublist j A).map _)).nodup hA.docs
theorem NInv.more {l : List Budget} {known : Int} {A S : List Use} {j : Nat} {x : Use} (h : NInv l known A j S) (hA : NSet l known A) (hx : A[j]? = some x) (hk : 0 ≤ known ∧ known < 1099511627776) :
    (∀ y ∈ S, y.at_ ≤ x.at_) ∧ Go.Abs.P.examine l (S ++ [knownAt known x]) = 0 ∧ NInv l known A (j + 1) S ∧ (NoOver l (S ++ [knownAt known x]) known → NInv l known A (j + 1) (S ++ [knownAt known x])) := by
  obtain ⟨hj, e⟩ := List.getElem?_eq_some_iff.1 hx
  have hxm : x ∈ A := by rw [← e]; exact List.getElem_mem hj
  have hd : A.drop j = x :: A.drop (j + 1) := by rw [← e]; exact List.drop_eq_getElem_cons hj
  have htk : A.take (j + 1) = A.take j ++ [x] := by rw [List.take_add_one, hx]; rfl
  have hats : ∀ y ∈ S, y.at_ ≤ x.at_ := fun y hy => h.ats y hy x (by rw [hd]; simp)
  obtain ⟨hf1, hf2⟩ := knownAt_fits (hA.fits x hxm) hk
  have hdocs : ((S ++ [knownAt known x]).map (·.doc)).Sublist ((A.take (j + 1)).map (·.doc)) := by
    rw [htk, List.map_append, List.map_append]
    exact h.docs.append (List.Sublist.refl _)
  have hfits : ∀ y ∈ S ++ [knownAt known x], y.fits = true := fun y hy => by
    rcases List.mem_append.1 hy with hy | hy
    · exact h.fits y hy
    · simp only [List.mem_singleton] at hy; subst hy; exact hf1
  have hlater : ∀ z ∈ A.drop (j + 1), x.at_ ≤ z.at_ := by
    have := hA.sorted.sublist (List.drop_sublist j A)
    rw [hd, List.pairwise_cons] at this
    exact this.1
  refine ⟨hats, ?_, ⟨by have := h.len; omega, h.fits, h.docs.trans (by rw [htk, List.map_append]; exact List.sublist_append_left _ _), fun y hy z hz => h.ats y hy z (by rw [hd]; simp [hz]), h.none⟩, fun hn => ⟨by simp; exact h.len, hfits, hdocs, fun y hy z hz => ?_, hn⟩⟩
  · have hl : (S ++ [knownAt known x]).length ≤ A.length := by
      have := hdocs.length_le
      simp only [List.length_map, List.length_take] at this; omega
    have := hA.len
    unfold Go.Abs.P.examine
    rw [if_neg (by simp [hA.chk]), if_neg (by omega), if_pos]
    refine (usesFrom_iff _ [] (by simp)).2 ⟨hfits, ?_⟩
    rw [List.nil_append]
    exact (hdocs.trans ((List.take_sublist _ A).map _)).nodup hA.docs
  · rcases List.mem_append.1 hy with hy | hy
    · exact h.ats y hy z (by rw [hd]; simp [hz])
    · simp only [List.mem_singleton] at hy; subst hy
      exact hlater z hz
/-- Put in its place. -/
theorem put_sorted {A : List Use} {x : Use} {q : Nat} (hs : A.Pairwise fun a b => a.at_ ≤ b.at_) (h1 : ∀ y ∈ A.take q, y.at_ ≤ x.at_) (h2 : ∀ y ∈ A.drop q, x.at_ < y.at_) : (A.take q ++ [x] ++ A.drop q).Pairwise (fun a b => a.at_ ≤ b.at_) ∧ (A.take q ++ [x] ++ A.drop q).Perm (x :: A) := by
  refine ⟨?_, ?_⟩
  · have e := hs
    rw [← List.take_append_drop q A, List.pairwise_append] at e
    rw [List.append_assoc, List.pairwise_append]
    refine ⟨e.1, ?_, fun a ha b hb => ?_⟩
    · rw [List.singleton_append, List.pairwise_cons]
      exact ⟨fun b hb => by have := h2 b hb; omega, e.2.1⟩
    · rw [List.singleton_append] at hb
      rcases List.mem_cons.1 hb with rfl | hb
      · exact h1 a ha
      · exact e.2.2 a ha b hb
  · have := List.perm_middle (a := x) (l₁ := A.take q) (l₂ := A.drop q)
    rw [List.take_append_drop] at this
    simpa using this
theorem take_sorted {A : List Use} (hs : A.Pairwise fun a b => a.at_ ≤ b.at_) {q : Nat} {a x : Use} (ha : A[q]? = some a) (hx : a.at_ ≤ x.at_) : ∀ y ∈ A.take (q + 1), y.at_ ≤ x.at_ := by
  obtain ⟨hq, rfl⟩ := List.getElem?_eq_some_iff.1 ha
  intro y hy
  obtain ⟨i, hi, rfl⟩ := List.getElem_of_mem hy
  simp only [List.length_take] at hi
  rw [List.getElem_take]
  by_cases e : i = q
  · subst e; exact hx
  · have := List.pairwise_iff_getElem.1 hs i q (by omega) hq (by omega)
    omega
end Go.Abs.P

/- Chapter 53: AccountsNever, run. No conditions. -/
namespace Go.Abs.P
open Go.Proofs
set_option maxRecDepth 10000
variable {C : Ctx}

def After (A : List Use) (q : Nat) (x : Use) : Prop := ∀ y ∈ A.drop q, x.at_ < y.at_
set_option maxHeartbeats 16000000 in
theorem AccountsNever_wp (h : In C) (l : List Budget) (u : List Use) (known : Int) : ∀ ℓ, wp C ℓ law53_AccountsNever.body ⟨argSlots 0 [.dat (.list (l.map Budget.enc) false), .dat (.list (u.map Use.enc) false), .dat (I known)], [], noneF, 0, []⟩ (fnK law53_AccountsNever.res (Gives (.dat (.bool true)))) := by
  intro ℓ
  unfold law53_AccountsNever
  simp +contextual -implicitDefEqProofs (maxSteps := 1000000) only [go_sem]
  refine CallX.plain (sane_ok h) ?_
  simp +contextual -implicitDefEqProofs (maxSteps := 1000000) only [go_sem]
  refine CallX.plain (right53_ok h l u [known] (by simp)) ?_
  simp +contextual -implicitDefEqProofs (maxSteps := 1000000) only [go_sem]
  refine ⟨?_, ?_⟩
  rotate_left
  · intro _
    exact RetNow.gives (.inr rfl)
  intro hr
  obtain ⟨ht, hl, hu, he⟩ := right53_parts (by simpa using hr)
  have ht : isTime known = true := by simpa using ht
  clear hr
  have hkn := isTime_in ht
  refine LoopW.sh (some ([0, 2, 7, 30, 31, 32], [64])) (fun i s => ∃ (n k : Nat) (A : List Use), s = ⟨[(0, .dat (.list (l.map Budget.enc) false)), (2, .dat (I known)), (7, .lst (A.map Use.enc) (.v ℓ 64 k)), (30, .dat (.list (u.map Use.enc) false)), (31, .dat (I u.length)), (32, .dat (I i))], [(.v ℓ 64 k, .tok 5)], noneF, n, []⟩ ∧ A.Perm (u.take i) ∧ A.Pairwise (fun a b => a.at_ ≤ b.at_)) u.length ?_ ?_
  · refine ⟨_, (Sh.tok C ℓ _ 7 64 5 (by simp only [go_sem])).trans (Sh.keep C ℓ _ (some ([0, 2, 7, 30, 31, 32], [64]))), ?_⟩
    simp only [go_sem]
    exact ⟨_, _, [], rfl, by simp, by simp⟩
  rintro i hi s ⟨n, k64, A, rfl, hperm, hsort⟩
  unfold law53_AccountsNever_l1
  simp only [go_sem]
  constructor
  · intro h3
    have h' : i < u.length := by simpa using h3
    have hx := List.getElem?_eq_getElem h'
    have htk : u.take (i + 1) = u.take i ++ [u[i]] := by rw [List.take_add_one, hx]; rfl
    generalize u[i] = x at hx htk
    have hw : IntKind.i64.wrap ((i : Int) + 1) = ((i + 1 : Nat) : Int) := wrap_in (by omega)
    have hAl : A.length = i := by have := hperm.length_eq; simp at this; omega
    simp +contextual -implicitDefEqProofs (maxSteps := 1000000) only [go_sem, hx]
    refine LoopW.up (some ([0, 2, 7, 9, 10, 30, 31, 32], [9, 64])) (fun j s => ∃ (q n2 : Nat), q + j = A.length ∧ s = ⟨[(0, .dat (.list (l.map Budget.enc) false)), (2, .dat (I known)), (7, .lst (A.map Use.enc) (.v ℓ 64 k64)), (9, .ptr (.v ℓ 9 n) 0), (10, .dat (I q)), (30, .dat (.list (u.map Use.enc) false)), (31, .dat (I u.length)), (32, .dat (I i))], [(.v ℓ 64 k64, .tok 5), (.v ℓ 9 n, .cells [.dat (I x.doc), .dat (I x.kind), .dat (I x.value), .dat (I x.at_), .dat (I x.known)])], noneF, n2, []⟩ ∧ After A q x) A.length ?_ ?_
    · simp only [go_sem]
      exact ⟨A.length, _, by omega, rfl, by simp [After]⟩
    rintro j hj s ⟨q, n2, hqj, rfl, hdr⟩
    unfold law53_AccountsNever_l0
    simp only [go_sem]
    by_cases hq : 0 < q
    · have hk0 : decide ((0 : Int) < (q : Int)) = true := decide_eq_true (by omega)
      obtain ⟨p, rfl⟩ : ∃ p, q = p + 1 := ⟨q - 1, by omega⟩
      have hwq : IntKind.i64.wrap (((p + 1 : Nat) : Int) - 1) = (p : Int) := by rw [wrap_in (by omega)]; omega
      have hpl : p < A.length := by omega
      have ha := List.getElem?_eq_getElem hpl
      have had := List.drop_eq_getElem_cons hpl
      generalize A[p] = a at ha had
      cases g : decide (x.at_ < a.at_)
      · have hle : ∀ y ∈ A.take (p + 1), y.at_ ≤ x.at_ := take_sorted hsort ha (by simpa using g)
        generalize hqq : p + 1 = q at *
        have htl : (A.take q).length = q := by simp; omega
        have r1 : (0 ≤ q ∧ q ≤ A.length) = True := by simp; omega
        have r2 : (q ≤ A.length ∧ A.length ≤ A.length) = True := by simp; omega
        have r3 : (q ≤ A.length) = True := by simp; omega
        have m1 : q ≤ mostLen := by unfold mostLen; omega
        have m2 : q + 1 ≤ mostLen := by unfold mostLen; omega
        have m3 : q + 1 + (A.length - q) ≤ mostLen := by unfold mostLen; omega
        have t1 : (List.map Use.enc A).take q = (A.take q).map Use.enc := by rw [List.map_take]
        have t2 : (List.map Use.enc A).drop q = (A.drop q).map Use.enc := by rw [List.map_drop]
        have t3 : (List.map Use.enc A).take A.length = List.map Use.enc A := List.take_of_length_le (by simp)
        have t4 : ∀ z : List Use, strideOk 5 (List.map Use.enc z) = True := stride_U
        simp -implicitDefEqProofs (maxSteps := 1000000) only [go_sem, hk0, hwq, ha, g, hw, r1, r2, r3, m1, m2, m3, t1, t2, t3, t4, htl, List.length_append, List.length_cons, List.length_nil, List.length_drop, List.length_map, if_true, or_true, and_true, true_and, Nat.le_refl, Nat.zero_le]
        obtain ⟨p1, p2⟩ := put_sorted hsort hle hdr
        refine ⟨h', _, Sh.refl C ℓ _, _, _, A.take q ++ [x] ++ A.drop q, by simp only [List.map_append]; rfl, ?_, p1⟩
        rw [htk]
        exact p2.trans ((List.Perm.cons x hperm).trans (List.perm_append_singleton x _).symm)

      · simp -implicitDefEqProofs (maxSteps := 1000000) only [go_sem, hk0, hwq, ha, g]
        refine ⟨by omega, p, _, by omega, rfl, fun y hy => ?_⟩
        rw [had] at hy
        rcases List.mem_cons.1 hy with rfl | hy
        · simpa using g
        · exact hdr y hy
    · have hk0 : decide ((0 : Int) < (q : Int)) = false := decide_eq_false (by omega)
      have hle : ∀ y ∈ A.take q, y.at_ ≤ x.at_ := by
        have : q = 0 := by omega
        subst this; simp
      have htl : (A.take q).length = q := by simp; omega
      have r1 : (0 ≤ q ∧ q ≤ A.length) = True := by simp; omega
      have r2 : (q ≤ A.length ∧ A.length ≤ A.length) = True := by simp; omega
      have r3 : (q ≤ A.length) = True := by simp; omega
      have m1 : q ≤ mostLen := by unfold mostLen; omega
      have m2 : q + 1 ≤ mostLen := by unfold mostLen; omega
      have m3 : q + 1 + (A.length - q) ≤ mostLen := by unfold mostLen; omega
      have t1 : (List.map Use.enc A).take q = (A.take q).map Use.enc := by rw [List.map_take]
      have t2 : (List.map Use.enc A).drop q = (A.drop q).map Use.enc := by rw [List.map_drop]
      have t3 : (List.map Use.enc A).take A.length = List.map Use.enc A := List.take_of_length_le (by simp)
      have t4 : ∀ z : List Use, strideOk 5 (List.map Use.enc z) = True := stride_U
      simp -implicitDefEqProofs (maxSteps := 1000000) only [go_sem, hk0, hw, r1, r2, r3, m1, m2, m3, t1, t2, t3, t4, htl, List.length_append, List.length_cons, List.length_nil, List.length_drop, List.length_map, if_true, or_true, and_true, true_and, Nat.le_refl, Nat.zero_le]
      obtain ⟨p1, p2⟩ := put_sorted hsort hle hdr
      refine ⟨h', _, Sh.refl C ℓ _, _, _, A.take q ++ [x] ++ A.drop q, by simp only [List.map_append]; rfl, ?_, p1⟩
      rw [htk]
      exact p2.trans ((List.Perm.cons x hperm).trans (List.perm_append_singleton x _).symm)

  · intro h3
    have hi2 : u.length ≤ i := by simpa using h3
    rw [List.take_of_length_le hi2] at hperm
    clear h3 hi hi2 i
    have hA : NSet l known A := by
      obtain ⟨c1, c2, c3⟩ := examine_parts he
      obtain ⟨c4, c5⟩ := (usesFrom_iff u [] (by simp)).1 c3
      rw [List.nil_append] at c5
      exact ⟨c1, by rw [hperm.length_eq]; exact hu, fun y hy => c4 y (hperm.mem_iff.1 hy), (hperm.map _).nodup_iff.2 c5, hsort⟩
    clear hperm he hu
    refine LoopW.sh (some ([0, 2, 11, 66, 67, 68], [118])) (fun j s => ∃ (n k : Nat) (S : List Use), s = ⟨[(0, .dat (.list (l.map Budget.enc) false)), (2, .dat (I known)), (11, .lst (S.map Use.enc) (.v ℓ 118 k)), (66, .lst (A.map Use.enc) (.v ℓ 64 k64)), (67, .dat (I A.length)), (68, .dat (I j))], [(.v ℓ 118 k, .tok 5)], noneF, n, []⟩ ∧ NInv l known A j S) A.length ?_ ?_
    · refine ⟨_, (Sh.tok C ℓ _ 11 118 5 (by simp only [go_sem])).trans (Sh.keep C ℓ _ (some ([0, 2, 11, 66, 67, 68], [118]))), ?_⟩
      simp only [go_sem]
      exact ⟨_, _, [], rfl, ⟨by simp, by simp, by simp, by simp, fun y hy => by simp at hy⟩⟩
    rintro j hj s ⟨n, k, S, rfl, hinv⟩
    unfold law53_AccountsNever_l2
    simp only [go_sem]
    constructor
    rotate_left
    · intro _
      exact RetNow.gives (.inr rfl)
    intro h3
    have h' : j < A.length := by simpa using h3
    have hx := List.getElem?_eq_getElem h'
    have hxm : A[j] ∈ A := List.getElem_mem h'
    generalize A[j] = x at hx hxm
    have hw : IntKind.i64.wrap ((j : Int) + 1) = ((j + 1 : Nat) : Int) := wrap_in (by have := hA.len; omega)
    have hxf := fits_parts (hA.fits x hxm)
    obtain ⟨hats, hex, hkeep, hmore⟩ := hinv.more hA hx hkn
    obtain ⟨hf1, hf2⟩ := knownAt_fits (hA.fits x hxm) hkn
    have hS := hinv.examine hA
    have hR := Room_ok h l S x.kind x.value x.at_ known hS hxf.2.1 hxf.2.2.1 hxf.2.2.2.1 hkn
    rw [standing_eq hA.chk] at hR
    have hO := Over_ok h l (S ++ [knownAt known x]) known
    have hSl : S.length + 1 ≤ mostLen := by have := hinv.len; have := hA.len; unfold mostLen; omega
    have hSl0 : S.length ≤ mostLen := by omega
    have t4 : ∀ z : List Use, strideOk 5 (List.map Use.enc z) = True := stride_U
    simp +contextual -implicitDefEqProofs (maxSteps := 1000000) only [go_sem, hx]
    refine CallX.plain hR ?_
    cases hroom : (roomAt S x.value x.at_ known (standing18 l x.kind x.at_ known)).2 with
    | false =>
      obtain ⟨a, N, hN⟩ := over_some (x := knownAt known x) hex ht hf1 hf2 hats hroom
      rw [hN] at hO
      rw [List.map_append] at hO
      simp +contextual -implicitDefEqProofs (maxSteps := 1000000) only [go_sem, hw, hSl, hSl0, t4, List.length_append, List.length_cons, List.length_nil]
      refine CallX.plain hO ?_
      have z1 : decide ((((N.length + 1 : Nat)) : Int) = 0) = false := decide_eq_false (by omega)
      simp +contextual -implicitDefEqProofs (maxSteps := 1000000) only [go_sem, encR, hw, z1]
      exact ⟨h', _, Sh.refl C ℓ _, _, _, S, rfl, hkeep⟩
    | true =>
      have hno := never_yes (x := knownAt known x) hA.chk hf1 hf2 hats hinv.none hroom
      rw [over_nil hex ht hno] at hO
      rw [List.map_append] at hO
      simp +contextual -implicitDefEqProofs (maxSteps := 1000000) only [go_sem, hw, hSl, hSl0, t4, List.length_append, List.length_cons, List.length_nil]
      refine CallX.plain hO ?_
      have z1 : decide ((((0 : Nat)) : Int) = 0) = true := by decide
      simp +contextual -implicitDefEqProofs (maxSteps := 1000000) only [go_sem, encR, hw, z1]
      exact ⟨h', _, Sh.refl C ℓ _, _, _, S ++ [knownAt known x], by rw [List.map_append]; rfl, hmore hno⟩
end Go.Abs.P

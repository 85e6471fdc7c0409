/- The abstract layer, part 27: iterators over maps, at the machine. No conditions. -/
import Derived.Test.YtedaolnhkjjfhaaA2
import Derived.Calls
import Derived.Orders
import Derived.Test.YtedaolnhkjjfhaaChecked
import Derived.Test.YtedaolnhkjjfhaaA0
import Derived.KernelRfl
import Derived.Test.YtedaolnhkjjfhaaA1
import Derived.Eval
set_option linter.unusedVariables false
set_option linter.unusedSimpArgs false
set_option linter.unnecessarySimpa false
namespace Go.Abs
open Go.RowKit

section
variable {C : Ctx} {c : Cfg} {M : Mem} {g : Ref → Option Blk} {w : World} {ℓ : Nat} {st : St}

theorem SR.bump (h : SR g ℓ st) (n : Nat) : SR (gset g (.ctr ℓ) (.ctr n)) ℓ { st with next := n } ∧ Moved g (gset g (.ctr ℓ) (.ctr n)) ℓ st { st with next := n } := by
  have hg : ∀ q x, g q = some x → q ≠ .ctr ℓ → gset g (.ctr ℓ) (.ctr n) q = some x := fun q x hq hn => by rw [gset_other _ _ hn]; exact hq
  have h1 : ∀ q x, ownGet st.own q = some x → q ≠ .ctr ℓ := fun q x hq e => h.noctr.1 (by subst e; unfold Own.has; rw [hq]; simp)
  have h2 : ∀ q x, st.out q = some x → q ≠ .ctr ℓ := fun q x hq e => by subst e; rw [h.noctr.2] at hq; simp at hq
  exact ⟨⟨fun q x hq => hg q x (h.own q x hq) (h1 q x hq), fun q x hq => hg q x (h.out q x hq) (h2 q x hq), h.apart, by simp, h.noctr⟩, ⟨fun q x hq _ _ hc => hg q x hq hc, fun q hq => .inl hq⟩⟩

theorem gset_comm (g : Ref → Option Blk) {r q : Ref} (b d : Blk) (h : r ≠ q) : gset (gset g r b) q d = gset (gset g q d) r b := by
  funext x
  simp only [gset]
  by_cases h1 : x = q
  · subst h1; simp [Ne.symm h]
  · simp [h1]

theorem range_ok (hc : CfgOk C.P c) (hrs : RS C M g w) (hsr : SR g ℓ st) {t : TypeId} {kt e : Nat} (hk : (c.ty t).kind = .map kt e) {d : Nat} {x : D} {ux : Value} (hx : VD M x ux) {dv : D} {st' : St} (hd : rangeSt ℓ d st x = some (dv, st')) :
    WOk C M g w ℓ st st' (do pure (.value (← Instr.range t ux))) dv := by
  obtain ⟨it, td, ty⟩ := hc.of_kind (t := t) (by rw [hk]; simp)
  have := ty.map hk; subst this
  unfold rangeSt at hd
  split at hd
  case h_2 => simp at hd
  rename_i r
  split at hd
  case h_2 => simp at hd
  rename_i _ es hg
  simp at hd; obtain ⟨rfl, rfl⟩ := hd
  simp only [VD] at hx
  obtain ⟨p, hp, rfl⟩ := hx
  obtain ⟨p', hp', how, en, cl, hh, hsz, hkv, hborn, hcl⟩ := hrs.blk _ _ (hsr.get _ _ hg)
  rw [hp] at hp'; cases hp'
  have hpl : M.place (.v ℓ d st.next) = none := by
    obtain ⟨l, e, hl⟩ := hrs.blk _ _ hsr.ctr
    cases e
    exact hl d st.next (Nat.le_refl _)
  obtain ⟨l0, s0, i0, hrv⟩ := hrs.plv r p hp
  have hrc : r ≠ .ctr ℓ := by rw [hrv]; simp
  have hlt : ℓ < M.nf := by
    rcases Nat.lt_or_ge ℓ M.nf with h1 | h1
    · exact h1
    · have := (hrs.nf ℓ h1).1; rw [hsr.ctr] at this; simp at this
  have hblk : p.blk < w.heap.size := (hrs.own _ _ _ how).1
  let M' : Mem := { M with place := fun q => if q = .v ℓ d st.next then some ⟨w.heap.size, 0, 0, 1⟩ else M.place q, owner := fun c o => if c = w.heap.size then some r else M.owner c o }
  have hle : M.le M' := ⟨fun _ _ _ h => h, fun q x hq => by
    simp only [M']; split
    · rename_i e; subst e; rw [hpl] at hq; simp at hq
    · exact hq, Nat.le_refl _, Nat.le_refl _⟩
  have hown' : ∀ b o q, M.owner b o = some q → M'.owner b o = some q := by
    intro b o q hq
    simp only [M']
    rw [if_neg (by have := (hrs.own b o q hq).1; omega)]; exact hq
  have hrn : r ≠ .v ℓ d st.next := by intro e; rw [e, hpl] at hp; simp at hp
  have hrs' : RS C M' (gset (gset g r (.mapl es (.v ℓ d st.next) [])) (.ctr ℓ) (.ctr (st.next + 1))) (w.alloc (.mapIter (some p.blk) cl #[] cl)) := by
    refine ⟨fun b o v hk => ?_, fun b o q hq => ?_, fun q x hq => ?_, fun l hl => ?_, fun q x hq hv => ?_, fun q x hq => ?_, fun n => V.mono hle _ _ (hrs.glob n), hrs.low.alloc hrs.n0.1 _, ?_⟩
    · have hlt := hrs.lt hk
      obtain ⟨h1, h2⟩ := hrs.known b o v hk
      refine ⟨by rw [World.cell?_alloc_lt (a := ⟨b, o, none⟩) (h := hlt)]; exact h1, ?_⟩
      simp only [M']
      rw [if_neg (by omega)]; exact h2
    · simp only [M'] at hq
      rw [World.size_alloc]
      split at hq
      · rename_i e; subst e; have := hrs.n0; omega
      · have := hrs.own b o q hq; omega
    · by_cases e2 : q = .ctr ℓ
      · subst e2
        simp only [gset_same, Option.some.injEq] at hq; subst hq
        obtain ⟨l, e3, hl⟩ := hrs.blk _ _ hsr.ctr
        cases e3
        refine ⟨ℓ, rfl, fun s' i hi => ?_⟩
        simp only [M']
        rw [if_neg (by intro e; cases e; omega)]
        exact hl s' i (by omega)
      · rw [gset_other _ _ e2] at hq
        by_cases e : q = r
        · subst e
          simp only [gset_same, Option.some.injEq] at hq; subst hq
          refine ⟨p, hle.place _ _ hp, hown' _ _ _ how, en, cl, ?_, hsz, fun j e k d h1 h2 => ⟨V.mono hle _ _ (hkv j e k d h1 h2).1, VD.mono hle _ _ (hkv j e k d h1 h2).2⟩, hborn, hcl, ⟨w.heap.size, 0, 0, 1⟩, by simp [M'], by simp [M'], #[], World.alloc_heap_new w _, by simp, by simp, by simp⟩
          rw [Below.heap_alloc _ _ _ hblk]; exact hh
        · rw [gset_other _ _ e] at hq
          refine RB.keep hle (fun b o hr => hown' b o q hr) (Keeps.alloc M q w _) (fun l n' e3 hx s' i hi => ?_) x (hrs.blk q x hq)
          simp only [M']
          rw [if_neg]
          · exact hx s' i hi
          · intro e4; cases e4; exact e2 e3
    · obtain ⟨h1, h2⟩ := hrs.nf l hl
      refine ⟨?_, fun s' i => ?_⟩
      · rw [gset_other _ _ (by intro e; cases e; exact absurd hlt (by simp only [M'] at hl; omega)), gset_other _ _ (by rw [hrv]; simp)]
        exact h1
      · simp only [M'] at hl ⊢
        rw [if_neg (by intro e; cases e; omega)]
        exact h2 s' i
    · simp only [M']
      by_cases e : q = .v ℓ d st.next
      · subst e; simp
      · rw [if_neg e]
        obtain ⟨l, s', i, e2⟩ := hv
        subst e2
        rw [gset_other _ _ (by simp)] at hq
        by_cases e3 : Ref.v l s' i = r
        · rw [e3, hp]; simp
        · rw [gset_other _ _ e3] at hq
          exact hrs.plc _ x hq ⟨l, s', i, rfl⟩
    · simp only [M'] at hq
      split at hq
      · rename_i e; exact ⟨_, _, _, e⟩
      · exact hrs.plv q x hq
    · rw [World.size_alloc]; have := hrs.n0; simp only [M']; omega
  obtain ⟨h5, h6⟩ := hsr.upd hg (.mapl es (.v ℓ d st.next) [])
  have hnx : (st.upd r (.mapl es (.v ℓ d st.next) [])).next = st.next := by unfold St.upd; split <;> rfl
  obtain ⟨h7, h8⟩ := h5.bump (st.next + 1)
  refine ⟨M', _, _, .pointer (some ⟨w.heap.size, 0, none⟩), .inl ?_, hle, hrs', ?_, h7, h6.trans h8 h7.noctr⟩
  · simp [Instr.range, ty.run_underlying, run_getObj_at hh rfl]
  · simp only [VD]
    exact ⟨⟨w.heap.size, 0, 0, 1⟩, by simp [M'], rfl⟩

theorem entry_ok (hrs : RS C M g w) {get : Ref → Option Blk} (hget : ∀ r b, get r = some b → g r = some b) {x : D} {ux : Value} (hx : VD M x ux) {dv : D} (hd : entrySt get x = some dv) : ∃ u, (Instr.entry ux).run C.P w = .ok u w ∧ VD M dv u := by
  unfold entrySt at hd
  split at hd
  case h_2 => simp at hd
  rename_i m q
  split at hd
  case h_2 => simp at hd
  rename_i _ es q' seen hg
  split at hd
  case isFalse => simp at hd
  rename_i e; subst e
  cases hlast : seen.getLast? with
  | none => rw [hlast] at hd; simp at hd
  | some i =>
    rw [hlast] at hd
    simp only [Option.bind_some, Option.map_eq_some_iff] at hd
    obtain ⟨kd, hi, rfl⟩ := hd
    obtain ⟨k, d⟩ := kd
    simp only [VD] at hx
    obtain ⟨pq, hpq, rfl⟩ := hx
    obtain ⟨p, hp, how, en, cl, hh, hsz, hkv, hborn, hcl, p', hp', how', sn, hit, hsn, hnd, hin⟩ := hrs.blk _ _ (hget _ _ hg)
    rw [hpq] at hp'; cases hp'
    have hil : i < en.size := by
      rw [hsz]
      rcases Nat.lt_or_ge i es.length with h | h
      · exact h
      · rw [List.getElem?_eq_none h] at hi; simp at hi
    have hei : en[i]? = some en[i] := Array.getElem?_eq_getElem hil
    have hback : sn.back? = some en[i].born := by
      rw [← Array.getLast?_toList, hsn, List.getLast?_map, hlast]
      simp [hei]
    have hfind : en.find? (fun e => e.born == en[i].born) = some en[i] := by
      rw [Array.find?_eq_some_iff_getElem]
      refine ⟨by simp, i, hil, rfl, fun j hj => ?_⟩
      have := hborn j i en[j] en[i] (Array.getElem?_eq_getElem (by omega)) hei hj
      simp; omega
    refine ⟨.tuple #[en[i].key, en[i].val], ?_, ?_⟩
    · simp [Instr.entry, run_getObj_at hit rfl, hback, run_getObj_at hh rfl, hfind]
    · obtain ⟨h1, h2⟩ := hkv i en[i] k d hei hi
      exact mkTup_ok (vs := [en[i].key, en[i].val]) (by simp only [VDl, VD]; exact ⟨h1, h2, trivial⟩)

theorem nodup_le : ∀ (n : Nat) (l : List Nat), l.Nodup → (∀ i ∈ l, i < n) → l.length ≤ n
  | 0, l, _, h => by
    cases l with
    | nil => simp
    | cons a l => have := h a (by simp); omega
  | n + 1, l, hn, h => by
    have h1 := nodup_le n (l.erase n) (hn.erase n) (fun i hi => by
      have := (hn.mem_erase_iff).1 hi
      have := h i this.2
      omega)
    rw [List.length_erase] at h1
    split at h1 <;> omega

theorem nodup_all {n : Nat} {l : List Nat} (hn : l.Nodup) (h : ∀ i ∈ l, i < n) (hl : n ≤ l.length) : ∀ i, i < n → i ∈ l := by
  intro i hi
  rcases Classical.em (i ∈ l) with h1 | h1
  · exact h1
  · have := nodup_le n (i :: l) (List.nodup_cons.2 ⟨h1, hn⟩) (fun j hj => by
      rcases List.mem_cons.1 hj with rfl | hj
      · exact hi
      · exact h j hj)
    simp at this; omega

theorem all_le : ∀ (n : Nat) (l : List Nat), (∀ i, i < n → i ∈ l) → n ≤ l.length
  | 0, _, _ => Nat.zero_le _
  | n + 1, l, h => by
    have h1 := all_le n (l.erase n) (fun i hi => (List.mem_erase_of_ne (by omega)).2 (h i (by omega)))
    have h2 := h n (by omega)
    rw [List.length_erase_of_mem h2] at h1
    have := List.length_pos_of_mem h2
    omega

theorem next_ok (hrs : RS C M g w) {m q : Ref} {es : List (Dat × D)} {seen : List Nat} (hg : g m = some (.mapl es q seen)) (hm : ∀ l, m ≠ .ctr l) {u : Value} (hu : VD M (.it m q) u) {ty : TypeId} :
    ∃ v w', (Instr.next u false ty).run C.P w = .ok v w' ∧ ((seen.length = es.length ∧ v = .tuple #[.bool false] ∧ RS C M g w') ∨
      (seen.length < es.length ∧ ∃ i k d, es[i]? = some (k, d) ∧ i ∉ seen ∧ VD M (mkTup [.dat (.bool true), .dat k, d]) v ∧ RS C M (gset g m (.mapl es q (seen ++ [i]))) w')) := by
  simp only [VD] at hu
  obtain ⟨pq, hpq, rfl⟩ := hu
  obtain ⟨p, hp, how, en, cl, hh, hsz, hkv, hborn, hcl, p', hp', how', sn, hit, hsn, hnd, hin⟩ := hrs.blk _ _ hg
  rw [hpq] at hp'; cases hp'
  have hchk : (!sn.isEmpty && !en.isEmpty && en.all (fun e => decide (e.born ≥ cl))) = false := by
    by_cases h : en.size = 0
    · have : en = #[] := by simpa using h
      subst this; simp
    · have h0 : 0 < en.size := by omega
      have hb := hcl 0 en[0] (Array.getElem?_eq_getElem h0)
      have : en.all (fun e => decide (e.born ≥ cl)) = false := by
        rw [Array.all_eq_false]
        exact ⟨0, h0, by simp; omega⟩
      rw [this]; simp
  let left := en.filter fun e => !sn.contains e.born
  have hleft : ∀ e, e ∈ left ↔ e ∈ en ∧ e.born ∉ sn.toList := by
    intro e; simp [left]
  have hlt : ∀ e ∈ left, e.born < cl := by
    intro e he
    obtain ⟨j, hj, ej⟩ := Array.getElem_of_mem ((hleft e).1 he).1
    exact hcl j e (by rw [Array.getElem?_eq_getElem hj, ej])
  have hold : left.filter (fun e => decide (e.born < cl)) = left := by
    rw [Array.filter_eq_self]
    intro e he
    simpa using hlt e he
  have hnew : left.filter (fun e => decide (e.born ≥ cl)) = #[] := by
    rw [Array.filter_eq_empty_iff]
    intro e he
    have := hlt e he
    simp; omega
  have hidx : ∀ i (hi : i < en.size), en[i].born ∈ sn.toList ↔ i ∈ seen := by
    intro i hi
    rw [hsn, List.mem_map]
    constructor
    · rintro ⟨j, hj, e⟩
      have hj' : j < en.size := by rw [hsz]; exact hin j hj
      rw [Array.getElem?_eq_getElem hj'] at e
      simp at e
      rcases Nat.lt_trichotomy i j with h | h | h
      · have := hborn i j en[i] en[j] (Array.getElem?_eq_getElem hi) (Array.getElem?_eq_getElem hj') h; omega
      · subst h; exact hj
      · have := hborn j i en[j] en[i] (Array.getElem?_eq_getElem hj') (Array.getElem?_eq_getElem hi) h; omega
    · intro h
      exact ⟨i, h, by rw [Array.getElem?_eq_getElem hi]; rfl⟩
  have hrun : (Instr.next (.pointer (some ⟨pq.blk, 0, none⟩)) false ty).run C.P w = ((do
      match ((if left.isEmpty then #[none] else #[]) ++ left.map some)[← choose (.mapNext ((if left.isEmpty then #[none] else #[]) ++ left.map some).size)]? with
      | some (some e) =>
        setObj pq.blk (.mapIter (some p.blk) cl (sn.push e.born) cl)
        pure (.tuple #[.bool true, e.key, e.val])
      | some none => pure (.tuple #[.bool false])
      | none => stuck "Next: no such candidate" : Sem Value)).run C.P w := by
    simp only [Instr.next, Sem.run_bind, run_getObj_at hit rfl, run_getObj_at hh rfl, Result.andThen_ok, hchk]
    simp only [Bool.false_eq_true, if_false]
    change _ = _
    have e1 : Array.filter (fun e => decide (e.born < cl)) (Array.filter (fun e => !sn.contains e.born) en) = left := hold
    have e2 : Array.filter (fun e => decide (e.born ≥ cl)) (Array.filter (fun e => !sn.contains e.born) en) = #[] := hnew
    rw [e1, e2, Array.append_empty]
    exact (Sem.run_bind ..)
  rw [hrun]
  by_cases hl0 : left.size = 0
  · have hle : left = #[] := by simpa using hl0
    rw [hle]
    have hall : ∀ i, i < es.length → i ∈ seen := by
      intro i hi
      have hi' : i < en.size := by omega
      rcases Classical.em (i ∈ seen) with h | h
      · exact h
      · have : en[i] ∈ left := (hleft _).2 ⟨by simp, fun h' => h ((hidx i hi').1 h')⟩
        rw [hle] at this; simp at this
    have h1 := all_le _ _ hall
    have h2 := nodup_le _ _ hnd hin
    exact ⟨.tuple #[.bool false], w, by simp [Question.forced], .inl ⟨by omega, rfl, hrs⟩⟩
  · have hie : left.isEmpty = false := by
      rw [Array.isEmpty_eq_false_iff]; intro e; rw [e] at hl0; simp at hl0
    simp only [hie, Bool.false_eq_true, if_false, Array.empty_append, Array.size_map]
    obtain ⟨j, dd, hj, hch⟩ : ∃ j dd, j < left.size ∧ (choose (.mapNext left.size)).run C.P w = .ok j { w with drawn := dd } := by
      by_cases h : left.size ≤ 1
      · exact ⟨0, w.drawn, by omega, by simp [Question.forced, h]⟩
      · refine ⟨w.tape w.drawn (.mapNext left.size) % left.size, w.drawn + 1, Nat.mod_lt _ (by omega), by simp [Question.forced, h, Question.cut]⟩
    have hmem : left[j] ∈ left := by simp
    obtain ⟨he, hns⟩ := (hleft _).1 hmem
    obtain ⟨i, hi, hei⟩ := Array.getElem_of_mem he
    have hins : i ∉ seen := fun h => hns (by rw [← hei]; exact (hidx i hi).2 h)
    have hil : i < es.length := by omega
    have hlen : seen.length < es.length := by
      rcases Nat.lt_or_ge seen.length es.length with h | h
      · exact h
      · exact (hins (nodup_all hnd hin h i hil)).elim
    obtain ⟨h1, h2⟩ := hkv i en[i] _ _ (Array.getElem?_eq_getElem hi) (List.getElem?_eq_getElem hil)
    have hrsd : RS C M g { w with drawn := dd } := hrs.drew dd
    have hne : p.blk ≠ pq.blk := by intro e; rw [e, hit] at hh; simp at hh
    refine ⟨.tuple #[.bool true, en[i].key, en[i].val], { ({ w with drawn := dd } : World) with heap := w.heap.setIfInBounds pq.blk (.mapIter (some p.blk) cl (sn.push en[i].born) cl) }, ?_, .inr ⟨hlen, i, es[i].1, es[i].2, List.getElem?_eq_getElem hil, hins, ?_, ?_⟩⟩
    · rw [Sem.run_bind, hch, Result.andThen_ok]
      rw [Array.getElem?_map, Array.getElem?_eq_getElem hj, Option.map_some]
      simp only [Sem.run_bind]
      rw [run_setObj_at (C := C) (w := { w with drawn := dd }) hit rfl]
      rw [hei]
      simp
    · exact mkTup_ok (vs := [.bool true, en[i].key, en[i].val]) (by simp only [VDl, VD, V]; exact ⟨by first | trivial | rfl, h1, h2, trivial⟩)
    · refine turn_obj hrsd hg hm hit rfl how' ?_
      refine ⟨p, hp, how, en, cl, ?_, hsz, hkv, hborn, hcl, pq, hpq, how', sn.push en[i].born, ?_, ?_, ?_, ?_⟩
      · have := heap_set (w := { w with drawn := dd }) (blk := pq.blk) (k := p.blk) (o' := .mapIter (some p.blk) cl (sn.push en[i].born) cl)
        rw [this, if_neg (fun e => hne e.symm)]; exact hh
      · have := heap_set (w := { w with drawn := dd }) (blk := pq.blk) (k := pq.blk) (o' := .mapIter (some p.blk) cl (sn.push en[i].born) cl)
        rw [this, if_pos rfl, if_pos (Array.getElem?_eq_some_iff.1 hit).1]
      · simp [hsn, Array.getElem?_eq_getElem hi]
      · rw [List.nodup_append]
        refine ⟨hnd, by simp, fun a ha b hb => ?_⟩
        simp at hb; subst hb
        intro e; subst e; exact hins ha
      · intro a ha
        rcases List.mem_append.1 ha with h | h
        · exact hin a h
        · simp at h; subst h; exact hil

end
end Go.Abs

/- The abstract layer, part 28: every operation that makes or turns something, together. No conditions. -/
namespace Go.Abs
open Go.RowKit

section
variable {C : Ctx} {c : Cfg} {M : Mem} {g : Ref → Option Blk} {w : World} {ℓ : Nat} {st : St}

theorem toList_map2 {α β : Type} {a : Array α} {f : α → β} {x y : β} (h : a.toList.map f = [x, y]) : ∃ u v, a = #[u, v] ∧ f u = x ∧ f v = y := by
  obtain ⟨l⟩ := a
  match l, h with
  | [u, v], h => simp at h; exact ⟨u, v, rfl, h.1, h.2⟩

theorem evW_sound (hc : CfgOk C.P c) (hrs : RS C M g w) (hsr : SR g ℓ st) {v : Opd → D} {ρ : Operand → Value} (hv : ∀ x, VD M (v (opd x)) (ρ x)) {dst : Nat} {o : Oper} {op : IOp}
    (hcomp : compOp c dst o.op = some op) (hW : isW op = true) {dv : D} {st' : St} (hd : evW ℓ dst st v op = some (dv, st')) : WOk C M g w ℓ st st' (execOp ρ o) dv := by
  obtain ⟨dst', oo, oty, pos, aft, grd⟩ := o
  simp only at hcomp
  cases oo <;> simp only [compOp] at hcomp
  case move => simp at hcomp; subst hcomp; simp [isW] at hW
  case assign => simp at hcomp; subst hcomp; simp [isW] at hW
  case pick => simp at hcomp; subst hcomp; simp [isW] at hW
  case alloc e =>
    simp at hcomp; subst hcomp
    simp only [evW] at hd
    split at hd
    · simp at hd
    · rename_i hz
      simp at hd; obtain ⟨rfl, rfl⟩ := hd
      exact alloc_ok hc hrs hsr hz
  case box e x =>
    simp at hcomp; subst hcomp
    simp only [evW] at hd
    split at hd
    case isFalse => simp at hd
    rename_i hz
    simp at hd; obtain ⟨rfl, rfl⟩ := hd
    exact box_ok hrs hsr (hv x) (by intro e; rw [e] at hz; simp at hz; omega)
  case build t ps =>
    split at hcomp
    · split at hcomp
      · simp only [Option.map_eq_some_iff] at hcomp; obtain ⟨_, _, rfl⟩ := hcomp; simp [isW] at hW
      · simp at hcomp
    · split at hcomp
      · simp at hcomp
      · simp at hcomp; subst hcomp; simp [isW] at hW
    · simp at hcomp
  case buildSlice t n ps =>
    split at hcomp
    · rename_i e hk
      simp only [Option.some.injEq] at hcomp; subst hcomp
      cases ha : c.arrs.contains dst with
      | false => rw [ha] at hW; simp [isW] at hW
      | true =>
        rw [ha] at hd
        simp only [evW] at hd
        split at hd
        case isFalse => simp at hd
        rename_i hcnd
        simp only [Option.map_eq_some_iff, Prod.mk.injEq] at hd
        obtain ⟨cs, hl, rfl, rfl⟩ := hd
        exact bslice_arr_ok hc hrs hsr hk hv (ps := ps) hcnd.1 hcnd.2.1 hcnd.2.2 (by rw [← hl]; simp [Function.comp_def])
    · simp at hcomp
  case load => simp at hcomp; subst hcomp; simp [isW] at hW
  case store t a x =>
    simp at hcomp; subst hcomp
    simp only [evW, Option.map_eq_some_iff, Prod.mk.injEq] at hd
    obtain ⟨s, hs, rfl, rfl⟩ := hd
    exact storeSt_ok hc hrs hsr (hv a) (hv x) hs
  case nilCheck => simp at hcomp; subst hcomp; simp [isW] at hW
  case binOp bop t x y yt =>
    have eqop : ∀ neg, eqOp neg (c.ty t) (opd x) (opd y) = some op → False := by
      intro neg hq
      unfold eqOp at hq
      split at hq
      · simp at hq; subst hq; simp [isW] at hW
      · simp at hq; subst hq; simp [isW] at hW
      · simp at hq; subst hq; simp [isW] at hW
      · simp only [Option.map_eq_some_iff] at hq
        obtain ⟨ks, h1, rfl⟩ := hq; simp [isW] at hW
      · simp at hq
    cases bop <;> simp only at hcomp
    case eql => exact (eqop false hcomp).elim
    case neq => exact (eqop true hcomp).elim
    all_goals (simp at hcomp; subst hcomp; simp [isW] at hW)
  case unOp => simp at hcomp; subst hcomp; simp [isW] at hW
  case convert =>
    split at hcomp
    · simp at hcomp; subst hcomp; simp [isW] at hW
    · simp at hcomp
  case makeInterface t x =>
    split at hcomp
    · simp at hcomp
    · simp at hcomp
    · simp at hcomp; subst hcomp; simp [isW] at hW
  case makeFunc f a b =>
    cases f <;> simp only at hcomp
    case func => simp at hcomp; subst hcomp; simp [isW] at hW
    all_goals cases hcomp
  case makeMap t r =>
    cases r with
    | some => cases hcomp
    | none =>
      simp at hcomp; subst hcomp
      simp [evW] at hd; obtain ⟨rfl, rfl⟩ := hd
      exact mkmap_ok hrs hsr
  case makeSlice t l m =>
    split at hcomp
    · rename_i e hk
      simp only [Option.some.injEq] at hcomp; subst hcomp
      simp only [evW] at hd
      split at hd
      case isFalse => simp at hd
      rename_i hby
      exact mkslice_ok hc hrs hsr hk hby (hv l) (hv m) hd
    · simp at hcomp
  case slice t x l h m =>
    split at hcomp
    · split at hcomp
      · simp at hcomp
      · simp at hcomp; subst hcomp; simp [isW] at hW
    · split at hcomp
      · simp at hcomp
      · simp at hcomp; subst hcomp; simp [isW] at hW
    · simp at hcomp
  case fieldAddr s x f =>
    split at hcomp
    · simp only [Option.bind_eq_some_iff] at hcomp
      obtain ⟨p, _, hcomp⟩ := hcomp
      split at hcomp
      · simp at hcomp
      · simp at hcomp; subst hcomp; simp [isW] at hW
    · simp at hcomp
  case field s x f =>
    split at hcomp
    · simp only [Option.map_eq_some_iff] at hcomp
      obtain ⟨p, _, rfl⟩ := hcomp
      simp [isW] at hW
    · simp at hcomp
  case indexAddr t x i =>
    split at hcomp
    · split at hcomp
      · simp at hcomp
      · simp at hcomp; subst hcomp; simp [isW] at hW
    · split at hcomp
      · simp at hcomp
      · simp at hcomp; subst hcomp; simp [isW] at hW
    · simp at hcomp
  case index t x i =>
    split at hcomp
    · simp at hcomp; subst hcomp; simp [isW] at hW
    · simp at hcomp
  case lookup t m k ok =>
    split at hcomp
    · simp only [Option.map_eq_some_iff] at hcomp
      obtain ⟨p, _, rfl⟩ := hcomp
      simp [isW] at hW
    · simp at hcomp
  case mapUpdate t m k x =>
    split at hcomp
    · rename_i kt e hk
      simp only [Option.map_eq_some_iff] at hcomp
      obtain ⟨q, hq, rfl⟩ := hcomp
      simp only [evW, Option.map_eq_some_iff, Prod.mk.injEq] at hd
      obtain ⟨s, hs, rfl, rfl⟩ := hd
      exact mapset_ok hc hk hq hrs hsr (hv m) (hv k) (hv x) hs
    · simp at hcomp
  case insert t m k x =>
    split at hcomp
    · rename_i kt e hk
      simp only [Option.map_eq_some_iff] at hcomp
      obtain ⟨q, hq, rfl⟩ := hcomp
      simp only [evW, Option.map_eq_some_iff, Prod.mk.injEq] at hd
      obtain ⟨s, hs, rfl, rfl⟩ := hd
      exact mapset_ok hc hk hq hrs hsr (hv m) (hv k) (hv x) hs
    · simp at hcomp
  case range t x =>
    split at hcomp
    · rename_i kt e hk
      simp at hcomp; subst hcomp
      exact range_ok hc hrs hsr hk (hv x) hd
    · simp at hcomp
  case next x s =>
    cases s
    · simp at hcomp; subst hcomp; simp [isW] at hW
    · cases hcomp
  case entry x =>
    simp at hcomp; subst hcomp
    simp only [evW, Option.map_eq_some_iff, Prod.mk.injEq] at hd
    obtain ⟨d, hs, rfl, rfl⟩ := hd
    obtain ⟨u, h1, h2⟩ := entry_ok hrs hsr.get (hv x) hs
    exact ⟨M, g, w, u, .inl (by simp [execOp, h1]), .refl M, hrs, h2, hsr, Moved.refl g ℓ st⟩
  case typeAssert x s t ok =>
    split at hcomp
    · simp at hcomp
    · simp at hcomp
    · simp at hcomp; subst hcomp; simp [isW] at hW
  case extract => simp at hcomp; subst hcomp; simp [isW] at hW
  case call cl =>
    obtain ⟨callee, args, argTypes⟩ := cl
    cases callee with
    | value gg => simp only [Option.some.injEq] at hcomp; subst hcomp; simp [isW] at hW
    | invoke => cases hcomp
    | builtin b =>
      simp only at hcomp
      split at hcomp
      · split at hcomp
        · simp at hcomp; subst hcomp; simp [isW] at hW
        · simp at hcomp; subst hcomp; simp [isW] at hW
        · simp at hcomp; subst hcomp; simp [isW] at hW
        · cases hcomp
      · rename_i x y hx
        obtain ⟨x', y', rfl, rfl, rfl⟩ := toList_map2 hx
        split at hcomp
        case h_2 => cases hcomp
        rename_i e e2 hk1 hk2
        obtain ⟨t, ht, hkt⟩ := kindAt_some (c := c) (a := argTypes) (i := 0) (by rw [hk1]; simp)
        obtain ⟨t2, ht2, hkt2⟩ := kindAt_some (c := c) (a := argTypes) (i := 1) (by rw [hk2]; simp)
        split at hcomp
        case isFalse => simp at hcomp
        rename_i hz
        simp only [Option.some.injEq] at hcomp; subst hcomp
        simp only [evW] at hd
        split at hd
        case isFalse => simp at hd
        rename_i hby
        rw [hk1] at hkt; rw [hk2] at hkt2
        have : WOk C M g w ℓ st st' (do pure (.value (← Builtin.append_ argTypes oty #[ρ x', ρ y']))) dv := by
          cases ha : c.arrs.contains dst with
          | true => rw [ha] at hd; exact append_arr_ok hc hrs hsr ht ht2 hkt.symm hkt2.symm hz.2 hby hz.1 (hv x') (hv y') hd
          | false => rw [ha] at hd; exact append_list_ok hc hrs hsr ht ht2 hkt.symm hkt2.symm hz.2 hby hz.1 (hv x') (hv y') hd
        simpa [execOp, resolve, invoke, builtin] using this
      · rename_i x y hx
        obtain ⟨x', y', rfl, rfl, rfl⟩ := toList_map2 hx
        split at hcomp
        case h_2 => cases hcomp
        rename_i e hk1
        obtain ⟨t, ht, hkt⟩ := kindAt_some (c := c) (a := argTypes) (i := 0) (by rw [hk1]; simp)
        simp only [Option.some.injEq] at hcomp; subst hcomp
        rw [hk1] at hkt
        have := copy_ok (ty0 := oty) hc hrs hsr ht hkt.symm (hv x') (hv y') hd
        simpa [execOp, resolve, invoke, builtin] using this
      · simp at hcomp; subst hcomp; simp [isW] at hW
      · simp at hcomp; subst hcomp; simp [isW] at hW
      · rename_i m k hx
        obtain ⟨x', y', rfl, rfl, rfl⟩ := toList_map2 hx
        split at hcomp
        case h_2 => cases hcomp
        rename_i kt e hk1
        obtain ⟨t, ht, hkt⟩ := kindAt_some (c := c) (a := argTypes) (i := 0) (by rw [hk1]; simp)
        simp only [Option.map_eq_some_iff] at hcomp
        obtain ⟨q, hq, rfl⟩ := hcomp
        rw [hk1] at hkt
        simp only [evW, Option.map_eq_some_iff, Prod.mk.injEq] at hd
        obtain ⟨s, hs, rfl, rfl⟩ := hd
        have := mapdel_ok (ty0 := oty) hc hkt.symm hq hrs hsr (hv x') (hv y') ht hs
        simpa [execOp, resolve, invoke, builtin] using this
      · simp at hcomp; subst hcomp; simp [isW] at hW
      · cases hcomp
  case defer cl =>
    obtain ⟨callee, args, argTypes⟩ := cl
    cases callee
    · simp only [Option.some.injEq] at hcomp; subst hcomp; simp [isW] at hW
    · cases hcomp
    · cases hcomp
  case panic => simp at hcomp; subst hcomp; simp [isW] at hW
  all_goals (first | cases hcomp | (unfold compOp at hcomp; cases hcomp))

end
end Go.Abs

/- The abstract layer, part 29: the machine's moves in any frame, a round's too. No conditions. -/
namespace Go.Abs
open Go.RowKit

/-- A running frame with these slots, deferred calls and items. -/
def fon (b : Frame) (tm : Array Value) (df : List Deferred) (k : List Item) : Frame := { b with tmps := tm, defers := df, todo := k, mode := .run }

section
variable {P : Program} {b : Frame} {tm : Array Value} {df : List Deferred} {k : List Item} {cs : List Frame} {w : World}

theorem mv_skip : step P (lone (fon b tm df (.code .skip :: k)) cs w) = .next (lone (fon b tm df k) cs w) := step_lone_go (by simp [stepG, stepG.exec, fon])
theorem mv_inBlock {id : Nat} : step P (lone (fon b tm df (.inBlock id :: k)) cs w) = .next (lone (fon b tm df k) cs w) := step_lone_go (by simp [stepG, stepG.exec, fon])
theorem mv_seq {x y : Code} : step P (lone (fon b tm df (.code (.seq x y) :: k)) cs w) = .next (lone (fon b tm df (.code x :: .code y :: k)) cs w) := step_lone_go (by simp [stepG, stepG.exec, fon])
theorem mv_cond {c : Operand} {x y : Code} {t : Bool} (h : (fon b tm df []).eval c = .bool t) :
    step P (lone (fon b tm df (.code (.cond c x y) :: k)) cs w) = .next (lone (fon b tm df (.code (if t then x else y) :: k)) cs w) :=
  step_lone_go (by
    have h' : (fon b tm df (.code (.cond c x y) :: k)).eval c = .bool t := by
      rw [← h]; cases c <;> rfl
    simp only [fon] at h'
    simp [stepG, stepG.exec, fon, h'])
theorem mv_block {id : Nat} {c : Code} : step P (lone (fon b tm df (.code (.block id c) :: k)) cs w) = .next (lone (fon b tm df (.code c :: .inBlock id :: k)) cs w) := step_lone_go (by simp [stepG, stepG.exec, fon])
theorem mv_loop {c : Code} : step P (lone (fon b tm df (.code (.loop c) :: k)) cs w) = .next (lone (fon b tm df (.code c :: .inLoop c :: k)) cs w) := step_lone_go (by simp [stepG, stepG.exec, fon])
theorem mv_inLoop {c : Code} : step P (lone (fon b tm df (.inLoop c :: k)) cs w) = .next (lone (fon b tm df (.code c :: .inLoop c :: k)) cs w) := step_lone_go (by simp [stepG, stepG.exec, fon])
theorem mv_exit {id : Nat} {k' : List Item} (h : exitTo id k = some k') : step P (lone (fon b tm df (.code (.exit id) :: k)) cs w) = .next (lone (fon b tm df k') cs w) := step_lone_go (by simp [stepG, stepG.exec, fon, h])
theorem mv_region {id : Nat} {ops : Array Oper} : step P (lone (fon b tm df (.code (.region id ops false) :: k)) cs w) = .next (lone (fon b tm df (.inRegion ops (List.range ops.size) :: k)) cs w) :=
  step_lone_go (by simp [stepG, stepG.exec, fon])
theorem mv_regionEnd {ops : Array Oper} : step P (lone (fon b tm df (.inRegion ops [] :: k)) cs w) = .next (lone (fon b tm df k) cs w) :=
  step_lone_go (by simp [stepG, stepG.exec, fon])

def putv (tm : Array Value) (d : Option Tmp) (v : Value) : Array Value := match d with | some t => tm.setIfInBounds t v | none => tm

/-- An operation whose guard says no. -/
theorem mv_unwanted {ops : Array Oper} {i : Nat} {o : Oper} {r : List Nat} (ho : ops[i]? = some o) (h : Region.wanted o (yielded ops tm) = false) :
    step P (lone (fon b tm df (.inRegion ops (i :: r) :: k)) cs w) = .next (lone (fon b (putv tm o.dst undef) df (.inRegion ops r :: k)) cs w) :=
  step_lone_go (by
    cases hd : o.dst <;> simp [stepG, stepG.exec, fon, ho, h, Frame.finish, putv, hd])

theorem eval_fon (k' : List Item) : (fon b tm df k').eval = (fon b tm df []).eval := by funext c; cases c <;> rfl

@[simp] theorem fon_todo : (fon b tm df k).todo = k := rfl
@[simp] theorem fon_defers : (fon b tm df k).defers = df := rfl

theorem oper_apply {fr : Frame} {o : Oper} (l : Bool) {dy : Option Dying} (h : fr.oper? = some o) (hnd : ∀ c, o.op ≠ .defer c) : stepG.oper P l fr cs dy w = stepG.apply P l fr cs dy (execOp fr.eval o) w := by
  unfold stepG.oper
  rw [h]
  simp only
  split
  · rename_i e; exact (hnd _ e).elim
  · rfl

theorem region_apply {ops : Array Oper} {i : Nat} {o : Oper} {r : List Nat} (ho : ops[i]? = some o) (h : Region.wanted o (yielded ops tm) = true) (hnd : ∀ c, o.op ≠ .defer c) :
    stepG P true { frame := fon b tm df (.inRegion ops (i :: r) :: k), callers := cs, status := .running, dying := none } w =
      stepG.apply P true (fon b tm df (.inRegion ops (i :: r) :: k)) cs none (execOp (fon b tm df []).eval o) w := by
  rw [← eval_fon (.inRegion ops (i :: r) :: k), ← oper_apply true (fr := fon b tm df (.inRegion ops (i :: r) :: k)) (by simp [Frame.oper?, fon, ho]) hnd]
  simp [stepG, stepG.exec, fon, ho, h]

theorem finish_region {ops : Array Oper} {i : Nat} {o : Oper} {r : List Nat} (ho : ops[i]? = some o) (v : Value) :
    (fon b tm df (.inRegion ops (i :: r) :: k)).finish v = fon b (putv tm o.dst v) df (.inRegion ops r :: k) := by
  cases hd : o.dst <;> simp [Frame.finish, fon, putv, ho, hd]

/-- An operation that is done at once. -/
theorem mv_value {ops : Array Oper} {i : Nat} {o : Oper} {r : List Nat} {v : Value} {w' : World} (ho : ops[i]? = some o) (h : Region.wanted o (yielded ops tm) = true) (hnd : ∀ c, o.op ≠ .defer c)
    (hrun : (execOp (fon b tm df []).eval o).run P w = .ok (.value v) w') :
    step P (lone (fon b tm df (.inRegion ops (i :: r) :: k)) cs w) = .next (lone (fon b (putv tm o.dst v) df (.inRegion ops r :: k)) cs w') :=
  step_lone_go (by rw [region_apply ho h hnd, ← finish_region ho v]; simp [stepG.apply, hrun])
theorem mv_skipped {ops : Array Oper} {i : Nat} {o : Oper} {r : List Nat} {w' : World} (ho : ops[i]? = some o) (h : Region.wanted o (yielded ops tm) = true) (hnd : ∀ c, o.op ≠ .defer c)
    (hrun : (execOp (fon b tm df []).eval o).run P w = .ok .skip w') :
    step P (lone (fon b tm df (.inRegion ops (i :: r) :: k)) cs w) = .next (lone (fon b (putv tm o.dst undef) df (.inRegion ops r :: k)) cs w') :=
  step_lone_go (by rw [region_apply ho h hnd, ← finish_region ho undef]; simp [stepG.apply, hrun])
theorem mv_enter {ops : Array Oper} {i : Nat} {o : Oper} {r : List Nat} {f : FuncId} {args : Array Value} {w' : World} (ho : ops[i]? = some o) (h : Region.wanted o (yielded ops tm) = true) (hnd : ∀ c, o.op ≠ .defer c)
    (hrun : (execOp (fon b tm df []).eval o).run P w = .ok (.enter f args) w') :
    step P (lone (fon b tm df (.inRegion ops (i :: r) :: k)) cs w) = .next (lone (Frame.enter P f args .normal) (fon b tm df (.inRegion ops (i :: r) :: k) :: cs) w') :=
  step_lone_go (by rw [region_apply ho h hnd]; simp [stepG.apply, hrun])
theorem mv_round {ops : Array Oper} {i : Nat} {o : Oper} {r : List Nat} {l : Nat} {f : FuncId} {tmps : Array Value} {x y : Code} {w' : World} (ho : ops[i]? = some o) (h : Region.wanted o (yielded ops tm) = true) (hnd : ∀ c, o.op ≠ .defer c)
    (hrun : (execOp (fon b tm df []).eval o).run P w = .ok (.round l f tmps x y) w') :
    step P (lone (fon b tm df (.inRegion ops (i :: r) :: k)) cs w) = .next (lone (Frame.round l f tmps x y .normal) (fon b tm df (.inRegion ops (i :: r) :: k) :: cs) w') :=
  step_lone_go (by rw [region_apply ho h hnd]; simp [stepG.apply, hrun])
theorem mv_panic {ops : Array Oper} {i : Nat} {o : Oper} {r : List Nat} {v : Value} {w' : World} (ho : ops[i]? = some o) (h : Region.wanted o (yielded ops tm) = true) (hnd : ∀ c, o.op ≠ .defer c)
    (hrun : (execOp (fon b tm df []).eval o).run P w = .halt (.panic v) w') :
    step P (lone (fon b tm df (.inRegion ops (i :: r) :: k)) cs w) = .next (lone ((fon b tm df (.inRegion ops (i :: r) :: k)).raise [{ v, recovered := false }]) cs w') :=
  step_lone_go (by rw [region_apply ho h hnd]; simp [stepG.apply, hrun])
theorem mv_defer {ops : Array Oper} {i : Nat} {o : Oper} {r : List Nat} {c : Call} {d : Deferred} (ho : ops[i]? = some o) (h : Region.wanted o (yielded ops tm) = true) (hd : o.op = .defer c) (hro : b.roundOf = none)
    (hrun : (resolve (fon b tm df []).eval c o.type).run P w = .ok d w) :
    step P (lone (fon b tm df (.inRegion ops (i :: r) :: k)) cs w) = .next (lone (fon b (putv tm o.dst undef) (d :: df) (.inRegion ops r :: k)) cs w) := by
  have hap : stepG P true { frame := fon b tm df (.inRegion ops (i :: r) :: k), callers := cs, status := .running, dying := none } w =
      stepG.apply P true (fon b tm df (.inRegion ops (i :: r) :: k)) cs none (execOp (fon b tm df []).eval o) w := by
    rw [← eval_fon (.inRegion ops (i :: r) :: k)]
    have : stepG.oper P true (fon b tm df (.inRegion ops (i :: r) :: k)) cs none w = stepG.apply P true (fon b tm df (.inRegion ops (i :: r) :: k)) cs none (execOp (fon b tm df (.inRegion ops (i :: r) :: k)).eval o) w := by
      unfold stepG.oper
      have : (fon b tm df (.inRegion ops (i :: r) :: k)).oper? = some o := by simp [Frame.oper?, fon, ho]
      rw [this]
      simp only
      split
      · rename_i e _; simp [fon, hro] at e
      · rfl
    rw [← this]
    simp [stepG, stepG.exec, fon, ho, h]
  refine step_lone_go ?_
  rw [hap]
  have hx : (execOp (fon b tm df []).eval o).run P w = .ok (.defer d) w := by
    obtain ⟨dst, op, ty, pos, aft, grd⟩ := o
    simp only at hd; subst hd
    simp [execOp, hrun]
  have hf : ({ fon b tm df (.inRegion ops (i :: r) :: k) with defers := d :: df } : Frame).finish undef = fon b (putv tm o.dst undef) (d :: df) (.inRegion ops r :: k) := by
    have := finish_region (b := b) (tm := tm) (df := d :: df) (k := k) (r := r) ho undef
    simpa [fon] using this
  rw [← hf]
  simp [stepG.apply, hx]

end
end Go.Abs

/- The abstract layer, part 30: a frame's slots against the machine's. No conditions. -/
namespace Go.Abs
open Go.RowKit

theorem tmGet_set (l : List (Nat × D)) (t : Nat) (d : D) (u : Nat) : tmGet ((t, d) :: l) u = if u = t then d else tmGet l u := by
  simp only [tmGet]
  by_cases h : u = t
  · subst h; simp
  · have : (t == u) = false := by simpa using Ne.symm h
    simp [h, this]

/-- What a frame put off: marks of loops that have nothing put off, and calls. -/
inductive DR (C : Ctx) (n1 : Nat) (M : Mem) (g : OwnF) (st : St) : List (D × List D) → List Deferred → Prop where
  | nil : DR C n1 M g st [] []
  | mark {b : Nat} {l : List (D × List D)} {ds : List Deferred} (h0 : n1 ≤ b) (h1 : g (.obj b) = some (.obj (.deferred (some [])))) (h2 : ¬ st.own.has (.obj b)) (h3 : st.out (.obj b) = none) (h4 : ∀ d ∈ ds, d.target ≠ .collected b) (h : DR C n1 M g st l ds) : DR C n1 M g st l (⟨.collected b, #[]⟩ :: ds)
  | real {f : D} {a : List D} {l : List (D × List D)} {d : Deferred} {ds : List Deferred} {fv : Value} {vs : List Value} (h1 : VD M f fv) (h2 : VDl M a vs) (h3 : ∀ w, (Deferred.ofValue fv vs.toArray).run C.P w = .ok d w) (h4 : ∀ b, d.target ≠ .collected b) (h : DR C n1 M g st l ds) : DR C n1 M g st ((f, a) :: l) (d :: ds)

theorem DR.move {C : Ctx} {n1 : Nat} {M M' : Mem} {g g' : OwnF} {ℓ : Nat} {st st' : St} (hle : M.le M') (hm : Moved g g' ℓ st st') {l : List (D × List D)} {ds : List Deferred} (h : DR C n1 M g st l ds) : DR C n1 M' g' st' l ds := by
  induction h with
  | nil => exact .nil
  | mark h0 h1 h2 h3 h4 _ ih =>
    refine .mark h0 (hm.frame _ _ h1 h2 h3 (by simp)) (fun h => ?_) ?_ h4 ih
    · rcases hm.keys _ (.inl h) with (h5 | h5) | h5
      · exact h2 h5
      · exact h5 h3
      · rw [h1] at h5; simp at h5
    · cases e : st'.out (.obj _) with
      | none => rfl
      | some x =>
        rcases hm.keys _ (.inr (by rw [e]; simp)) with (h5 | h5) | h5
        · exact (h2 h5).elim
        · exact (h5 h3).elim
        · rw [h1] at h5; simp at h5
  | real h1 h2 h3 h4 _ ih => exact .real (VD.mono hle _ _ h1) (VDl.mono hle _ _ h2) h3 h4 ih

/-- A frame's state, against the machine. -/
structure FR (C : Ctx) (ℓ nt n1 : Nat) (M : Mem) (g : OwnF) (w : World) (st : St) (tm : Array Value) (df : List Deferred) : Prop where
  rs : RS C M g w
  sr : SR g ℓ st
  sz : tm.size = nt
  tm : ∀ t, VD M (tmGet st.tm t) (tm.getD t undef)
  df : DR C n1 M g st st.df df
  n1 : n1 ≤ M.hs

section
variable {C : Ctx} {ℓ nt n1 : Nat} {M : Mem} {g : OwnF} {w : World} {st : St} {tm : Array Value} {df : List Deferred} {b : Frame}

theorem FR.val (h : FR C ℓ nt n1 M g w st tm df) (x : Operand) : VD M (st.val C.G (opd x)) ((fon b tm df []).eval x) := by
  cases x with
  | tmp t => exact h.tm t
  | const v => simp only [opd, St.val, VD, Frame.eval]; exact valDat_ok M v
  | func f => simp only [opd, St.val, VD, V, Frame.eval]; exact ⟨#[], #[], rfl, by simp [Vl], by simp [Vl]⟩
  | global n => simp only [opd, St.val, VD, Frame.eval]; exact h.rs.glob n

theorem FR.step (h : FR C ℓ nt n1 M g w st tm df) {st' : St} {M' : Mem} {g' : OwnF} {w' : World} (hle : M.le M') (hrs : RS C M' g' w') (hsr : SR g' ℓ st') (hm : Moved g g' ℓ st st') (htm : st'.tm = st.tm) (hdf : st'.df = st.df) : FR C ℓ nt n1 M' g' w' st' tm df :=
  ⟨hrs, hsr, h.sz, fun t => by rw [htm]; exact VD.mono hle _ _ (h.tm t), by rw [hdf]; exact h.df.move hle hm, Nat.le_trans h.n1 hle.hs⟩

theorem putv_size (tm : Array Value) (d : Option Tmp) (v : Value) : (putv tm d v).size = tm.size := by cases d <;> simp [putv]

theorem put_own (st : St) (d : Option Nat) (v : D) : (st.put d v).own = st.own ∧ (st.put d v).out = st.out ∧ (st.put d v).next = st.next ∧ (st.put d v).df = st.df := by
  cases d <;> simp [St.put]

theorem SR.put (h : SR g ℓ st) (d : Option Nat) (v : D) : SR g ℓ (st.put d v) := by
  obtain ⟨h1, h2, h3, _⟩ := put_own st d v
  exact ⟨by rw [h1]; exact h.own, by rw [h2]; exact h.out, by rw [h1, h2]; exact h.apart, by rw [h3]; exact h.ctr, by rw [h1, h2]; exact h.noctr⟩
theorem Moved.put (g : OwnF) (ℓ : Nat) (st : St) (d : Option Nat) (v : D) : Moved g g ℓ st (st.put d v) := by
  obtain ⟨h1, h2, h3, _⟩ := put_own st d v
  exact ⟨fun _ _ h _ _ _ => h, fun q h => by rw [h1, h2] at h; exact .inl h⟩

theorem FR.put (h : FR C ℓ nt n1 M g w st tm df) {d : Option Nat} (hd : ∀ t, d = some t → t < nt) {v : D} {u : Value} (hv : VD M v u) : FR C ℓ nt n1 M g w (st.put d v) (putv tm d u) df := by
  refine ⟨h.rs, h.sr.put d v, by rw [putv_size]; exact h.sz, fun t => ?_, ?_, h.n1⟩
  · cases d with
    | none => exact h.tm t
    | some t' =>
      simp only [St.put, putv]
      rw [tmGet_set]
      have := hd t' rfl
      by_cases e : t = t'
      · subst e
        rw [if_pos rfl]
        have : (tm.setIfInBounds t u).getD t undef = u := by
          have hlt : t < tm.size := by rw [h.sz]; exact this
          simp [Array.getD, hlt]
        rw [this]; exact hv
      · rw [if_neg e]
        have : (tm.setIfInBounds t' u).getD t undef = tm.getD t undef := by
          rw [Array.getD_eq_getD_getElem?, Array.getD_eq_getD_getElem?, Array.getElem?_setIfInBounds_ne (Ne.symm e)]
        rw [this]; exact h.tm t
  · rw [(put_own st d v).2.2.2]
    exact h.df.move (.refl M) (Moved.put g ℓ st d v)

end

/-- Where the machine comes to. -/
def Arr (P : Program) (m : Machine) (b : Frame) (cs : List Frame) (k : List Item) (M : Mem) (tm : Array Value) (df : List Deferred) (w : World) : Ex → Prop
  | .normal => Steps P m (lone (fon b tm df k) cs w)
  | .exit id => ∃ k', exitTo id k' = exitTo id k ∧ Steps P m (lone (fon b tm df (.code (.exit id) :: k')) cs w)
  | .ret => ∃ k', Steps P m (lone (fon b tm df (.code .ret :: k')) cs w)
  | .pan d => ∃ v k', VD M d v ∧ Steps P m (lone { fon b tm df k' with mode := .panicking [{ v, recovered := false }] } cs w)

theorem Arr.of_steps {P : Program} {m m1 : Machine} {b : Frame} {cs : List Frame} {k : List Item} {M : Mem} {tm : Array Value} {df : List Deferred} {w : World} {e : Ex} (h : Steps P m m1) (h' : Arr P m1 b cs k M tm df w e) : Arr P m b cs k M tm df w e := by
  cases e with
  | normal => exact h.trans h'
  | exit id => obtain ⟨k', h1, h2⟩ := h'; exact ⟨k', h1, h.trans h2⟩
  | ret => obtain ⟨k', h2⟩ := h'; exact ⟨k', h.trans h2⟩
  | pan d => obtain ⟨v, k', h1, h2⟩ := h'; exact ⟨v, k', h1, h.trans h2⟩

/-- From here on it ends as Q tells. -/
def Ends (C : Ctx) (ℓ nt n1 : Nat) (b : Frame) (cs : List Frame) (k : List Item) (M : Mem) (g : OwnF) (st : St) (m : Machine) (Q : Ex → St → Prop) : Prop :=
  ∃ e st' M' g' tm' df' w', Q e st' ∧ FR C ℓ nt n1 M' g' w' st' tm' df' ∧ M.le M' ∧ Moved g g' ℓ st st' ∧ Arr C.P m b cs k M' tm' df' w' e

theorem Ends.of_steps {C : Ctx} {ℓ nt n1 : Nat} {b : Frame} {cs : List Frame} {k : List Item} {M : Mem} {g : OwnF} {st : St} {m m1 : Machine} {Q : Ex → St → Prop} (h : Steps C.P m m1) (h' : Ends C ℓ nt n1 b cs k M g st m1 Q) : Ends C ℓ nt n1 b cs k M g st m Q := by
  obtain ⟨e, st', M', g', tm', df', w', h1, h2, h3, h4, h5⟩ := h'
  exact ⟨e, st', M', g', tm', df', w', h1, h2, h3, h4, h5.of_steps h⟩

/-- First to another state, then on. -/
theorem Ends.after {C : Ctx} {ℓ nt n1 : Nat} {b : Frame} {cs : List Frame} {k : List Item} {M M1 : Mem} {g g1 : OwnF} {st st1 : St} {m : Machine} {Q : Ex → St → Prop} (hle : M.le M1) (hm : Moved g g1 ℓ st st1) (h' : Ends C ℓ nt n1 b cs k M1 g1 st1 m Q) : Ends C ℓ nt n1 b cs k M g st m Q := by
  obtain ⟨e, st', M', g', tm', df', w', h1, h2, h3, h4, h5⟩ := h'
  exact ⟨e, st', M', g', tm', df', w', h1, h2, hle.trans h3, hm.trans h4 h2.sr.noctr, h5⟩

theorem Ends.mono {C : Ctx} {ℓ nt n1 : Nat} {b : Frame} {cs : List Frame} {k : List Item} {M : Mem} {g : OwnF} {st : St} {m : Machine} {Q Q' : Ex → St → Prop} (h : Ends C ℓ nt n1 b cs k M g st m Q) (hq : ∀ e s, Q e s → Q' e s) : Ends C ℓ nt n1 b cs k M g st m Q' := by
  obtain ⟨e, st', M', g', tm', df', w', h1, h2⟩ := h
  exact ⟨e, st', M', g', tm', df', w', hq _ _ h1, h2⟩

end Go.Abs

/- The abstract layer, part 31: a row of operations, at the machine. No conditions. -/
namespace Go.Abs
open Go.RowKit

section
variable {C : Ctx} {c : Cfg} {ℓ nt n1 : Nat} {M : Mem} {g : OwnF} {w : World} {st : St} {tm : Array Value} {df : List Deferred} {b : Frame} {cs : List Frame} {k : List Item}

/-- A guard, at the machine. -/
theorem wanted_of (h : FR C ℓ nt n1 M g w st tm df) {ops : Array Oper} {o : Oper} {j : Nat} {want : Bool} {t : Nat} (hg : o.guard = some (j, want)) (ht : (ops[j]?).bind (·.dst) = some t) {x : Bool} (hs : skips (tmGet st.tm t) want = some x) : Region.wanted o (yielded ops tm) = x := by
  have hv := h.tm t
  simp only [Region.wanted, hg, yielded, ht, Option.bind_some]
  unfold skips at hs
  split at hs
  · rename_i v e
    rw [e] at hv
    simp only [VD, V] at hv
    simp at hs; subst hs
    have : tm[t]? = some (.bool v) := by
      rw [Array.getD_eq_getD_getElem?] at hv
      cases e2 : tm[t]? with
      | none => rw [e2] at hv; simp [undef] at hv
      | some y => rw [e2] at hv; simp at hv; rw [hv]
    rw [this]
    rfl
  · rename_i e
    rw [e] at hv
    simp only [VD, V] at hv
    simp at hs; subst hs
    obtain ⟨a, h1, h2⟩ := hv
    rw [Array.getD_eq_getD_getElem?] at h1
    cases e2 : tm[t]? with
    | none => rfl
    | some y => rw [e2] at h1; simp at h1; subst h1; rfl
  · simp at hs

/-- What a call has become: back in the frame. -/
theorem call_sound (h : FR C ℓ nt n1 M g w st tm df) {ops : Array Oper} {i : Nat} {o : Oper} {r : List Nat} {f : Operand} {args : Array Operand} {ats : Array TypeId} (ho : ops[i]? = some o) (hop : o.op = .call { callee := .value f, args, argTypes := ats }) (hw : Region.wanted o (yielded ops tm) = true)
    {K : D → St → Prop} {Q : Ex → St → Prop} (hcall : callW C ℓ (opd f) (args.toList.map opd) st K Q) (hdst : ∀ t, o.dst = some t → t < nt)
    (hK : ∀ (v : D) (st' : St) (M' : Mem) (g' : OwnF) (w' : World) (u : Value), M.le M' → Moved g g' ℓ st st' → FR C ℓ nt n1 M' g' w' st' tm df → VD M' v u → K v st' → Ends C ℓ nt n1 b cs k M' g' st' (lone (fon b (putv tm o.dst u) df (.inRegion ops r :: k)) cs w') Q) :
    Ends C ℓ nt n1 b cs k M g st (lone (fon b tm df (.inRegion ops (i :: r) :: k)) cs w) Q := by
  obtain ⟨st1, ⟨hdf1, hsh⟩, S, hsub, hcv⟩ : ∃ st1, Sh C ℓ st st1 ∧ ∃ S : OwnF, S.sub st1 ∧ CallV C (st1.val C.G (opd f)) ((args.toList.map opd).map fun a => (st1.val C.G a).arg) S (callK ℓ st1 S K Q) := by
    rcases hcall with hp | hp
    · have hsh : Sh C ℓ st st := ⟨rfl, fun M g w tv h1 h2 h3 => ⟨M, g, .refl M, h1, h2, Moved.refl g ℓ st, h3⟩⟩
      refine ⟨st, hsh, noneF, fun r b e => by simp [noneF] at e, hp.mono fun r S' hq => ?_⟩
      cases r with
      | ret v => exact fun hn => ⟨st.own, st.out, ⟨fun r b e => .inr ⟨rfl, e⟩, fun r b e => .inr ⟨rfl, e⟩, h.sr.apart⟩, hq⟩
      | pan d => exact fun hn => ⟨st.own, st.out, ⟨fun r b e => .inr ⟨rfl, e⟩, fun r b e => .inr ⟨rfl, e⟩, h.sr.apart⟩, hq⟩
    · exact hp
  obtain ⟨M1, g1, hle1, hrs1, hsr1, hm1, htm1⟩ := hsh M g w (fun t => tm.getD t undef) h.rs h.sr h.tm
  have h1 : FR C ℓ nt n1 M1 g1 w st1 tm df := ⟨hrs1, hsr1, h.sz, htm1, by rw [hdf1]; exact h.df.move hle1 hm1, Nat.le_trans h.n1 hle1.hs⟩
  refine Ends.after hle1 hm1 ?_
  have hnd : ∀ c, o.op ≠ .defer c := by intro c e; rw [hop] at e; cases e
  have hS : S.within g1 := by
    intro q x hq
    rcases hsub q x hq with h2 | h2
    · exact hsr1.own q x h2
    · exact hsr1.out q x h2
  have hargs : VDl M1 ((args.toList.map opd).map fun a => (st1.val C.G a).arg) (args.toList.map (fon b tm df []).eval) := by
    have : ∀ l : List Operand, VDl M1 ((l.map opd).map fun a => (st1.val C.G a).arg) (l.map (fon b tm df []).eval) := by
      intro l
      induction l with
      | nil => simp [VDl]
      | cons a l ih => simp only [List.map_cons, VDl]; exact ⟨VD_arg (h1.val a), ih⟩
    exact this _
  obtain ⟨nx, w1, hrun, hgo⟩ := hcv M1 g1 w _ _ hrs1 hS (h1.val (b := b) f) hargs
  have hexec : (execOp (fon b tm df []).eval o).run C.P w = .ok nx w1 := by
    obtain ⟨dst, op, ty, pos, aft, grd⟩ := o
    simp only at hop; subst hop
    rw [← hrun]
    have : (args.toList.map (fon b tm df []).eval).toArray = args.map (fon b tm df []).eval := by
      apply Array.ext'; simp
    rw [this]
    simp [execOp, resolve]
  have hSc : S (.ctr ℓ) = none := by
    cases e : S (.ctr ℓ) with
    | none => rfl
    | some x =>
      rcases hsub _ _ e with h2 | h2
      · exact (hsr1.noctr.1 (has_of h2)).elim
      · rw [hsr1.noctr.2] at h2; simp at h2
  have hSn : ∀ q, ¬ st1.own.has q → st1.out q = none → S q = none := by
    intro q h2 h3
    cases e : S q with
    | none => rfl
    | some x =>
      rcases hsub _ _ e with h4 | h4
      · exact (h2 (has_of h4)).elim
      · rw [h3] at h4; simp at h4
  have back : ∀ (S' : OwnF) (M' : Mem) (g' : OwnF) (w' : World) (own' : Own) (out' : OwnF), Went C M1 M' g1 g' w' S S' → After st1 S S' own' out' → FR C ℓ nt n1 M' g' w' { st1 with own := own', out := out' } tm df ∧ Moved g1 g' ℓ st1 { st1 with own := own', out := out' } := by
    intro S' M' g' w' own' out' hwent haft
    have hSc' : S' (.ctr ℓ) = none := by
      cases e : S' (.ctr ℓ) with
      | none => rfl
      | some x =>
        rcases hwent.keys (.ctr ℓ) (by rw [e]; simp) with h2 | h2
        · exact (h2 hSc).elim
        · rw [hsr1.ctr] at h2; simp at h2
    have hin : ∀ q x, (S' q = some x ∨ (S q = none ∧ ownGet st1.own q = some x)) → g' q = some x := by
      rintro q x (h2 | ⟨h2, h3⟩)
      · exact hwent.within q x h2
      · exact hwent.frame q x (hsr1.own q x h3) h2
    have hin2 : ∀ q x, (S' q = some x ∨ (S q = none ∧ st1.out q = some x)) → g' q = some x := by
      rintro q x (h2 | ⟨h2, h3⟩)
      · exact hwent.within q x h2
      · exact hwent.frame q x (hsr1.out q x h3) h2
    have hkey : ∀ q, own'.has q ∨ out' q ≠ none → (st1.own.has q ∨ st1.out q ≠ none) ∨ g1 q = none := by
      intro q hq
      have fromS : S' q ≠ none → (st1.own.has q ∨ st1.out q ≠ none) ∨ g1 q = none := by
        intro h2
        rcases hwent.keys q h2 with h3 | h3
        · left
          cases e : S q with
          | none => exact (h3 e).elim
          | some x =>
            rcases hsub _ _ e with h4 | h4
            · exact .inl (has_of h4)
            · exact .inr (by rw [h4]; simp)
        · exact .inr h3
      rcases hq with hq | hq
      · obtain ⟨x, hx⟩ := has_iff hq
        rcases haft.own q x hx with h2 | ⟨_, h2⟩
        · exact fromS (by rw [h2]; simp)
        · exact .inl (.inl (has_of h2))
      · cases e : out' q with
        | none => exact (hq e).elim
        | some x =>
          rcases haft.out q x e with h2 | ⟨_, h2⟩
          · exact fromS (by rw [h2]; simp)
          · exact .inl (.inr (by rw [h2]; simp))
    have hmv : Moved g1 g' ℓ st1 { st1 with own := own', out := out' } := ⟨fun q x hq h2 h3 _ => hwent.frame q x hq (hSn q h2 h3), hkey⟩
    have hsr' : SR g' ℓ { st1 with own := own', out := out' } := by
      refine ⟨fun q x hq => hin q x (haft.own q x hq), fun q x hq => hin2 q x (haft.out q x hq), haft.apart, hwent.frame _ _ hsr1.ctr hSc, fun hh => ?_, ?_⟩
      · obtain ⟨x, hx⟩ := has_iff hh
        rcases haft.own _ x hx with h2 | ⟨_, h2⟩
        · rw [hSc'] at h2; simp at h2
        · exact hsr1.noctr.1 (has_of h2)
      · show out' (.ctr ℓ) = none
        cases e : out' (.ctr ℓ) with
        | none => rfl
        | some x =>
          rcases haft.out _ x e with h2 | ⟨_, h2⟩
          · rw [hSc'] at h2; simp at h2
          · rw [hsr1.noctr.2] at h2; simp at h2
    exact ⟨h1.step hwent.le hwent.rs hsr' hmv rfl rfl, hmv⟩
  have hkn : ∀ (M' : Mem) (g' : OwnF) (w' : World) (S' : OwnF), Went C M1 M' g1 g' w' S S' → ∀ r, S r = none → st1.own.has r ∨ st1.out r ≠ none → S' r = none := by
    intro M' g' w' S' hwent r hr hin
    cases e : S' r with
    | none => rfl
    | some x =>
      rcases hwent.keys r (by rw [e]; simp) with h2 | h2
      · exact (h2 hr).elim
      · rcases hin with h3 | h3
        · obtain ⟨y, hy⟩ := has_iff h3
          rw [hsr1.own r y hy] at h2; simp at h2
        · cases e2 : st1.out r with
          | none => exact (h3 e2).elim
          | some y => rw [hsr1.out r y e2] at h2; simp at h2
  have hfresh : ∀ (M' : Mem) (g' : OwnF) (w' : World) (S' : OwnF), Went C M1 M' g1 g' w' S S' → ∀ s i, st1.next ≤ i → S' (.v ℓ s i) = none := by
    intro M' g' w' S' hwent s i hi
    cases e : S' (.v ℓ s i) with
    | none => rfl
    | some x =>
      have h2 := hwent.within _ _ e
      have h3 := hwent.rs.plc _ _ h2 ⟨_, _, _, rfl⟩
      have h4 := hwent.frame _ _ hsr1.ctr hSc
      obtain ⟨l, el, h5⟩ := hwent.rs.blk _ _ h4
      cases el
      exact (h3 (h5 s i hi)).elim
  -- the two ends
  have fin : ∀ (mr : MRes) (w' : World) (m : Machine), (∃ M' g' r S', Went C M1 M' g1 g' w' S S' ∧ RRel M' r mr ∧ callK ℓ st1 S K Q r S') → Steps C.P (lone (fon b tm df (.inRegion ops (i :: r) :: k)) cs w) (mr.fin (fon b tm df (.inRegion ops (i :: r) :: k)) cs w') →
      Ends C ℓ nt n1 b cs k M1 g1 st1 (lone (fon b tm df (.inRegion ops (i :: r) :: k)) cs w) Q := by
    intro mr w' m ⟨M', g', r', S', hwent, hrel, hk⟩ hst
    cases r' with
    | ret d =>
      cases mr with
      | pan ch => exact hrel.elim
      | ret v =>
        obtain ⟨own', out', haft, hk⟩ := hk ⟨hsr1.apart, hkn M' g' w' S' hwent, hfresh M' g' w' S' hwent⟩
        obtain ⟨h2, h3⟩ := back S' M' g' w' own' out' hwent haft
        simp only [MRes.fin, finish_region ho] at hst
        exact Ends.of_steps hst (Ends.after hwent.le h3 (hK d _ M' g' w' v (hle1.trans hwent.le) (hm1.trans h3 h2.sr.noctr) h2 hrel hk))
    | pan d =>
      cases mr with
      | ret v => exact hrel.elim
      | pan ch =>
        obtain ⟨own', out', haft, hk⟩ := hk ⟨hsr1.apart, hkn M' g' w' S' hwent, hfresh M' g' w' S' hwent⟩
        obtain ⟨h2, h3⟩ := back S' M' g' w' own' out' hwent haft
        obtain ⟨v, rfl, hv⟩ := hrel
        exact ⟨.pan d, _, M', g', tm, df, w', hk, h2, hwent.le, h3, v, _, hv, hst⟩
  cases nx with
  | value v =>
    have := hgo (fon b tm df (.inRegion ops (i :: r) :: k)) cs
    exact fin (.ret v) w1 (lone b cs w) this (by
      simp only [MRes.fin, finish_region ho]
      exact .one (mv_value ho hw hnd hexec))
  | enter f' args' =>
    obtain ⟨mr, w', h2, h3⟩ := hgo (fon b tm df (.inRegion ops (i :: r) :: k)) cs
    exact fin mr w' (lone b cs w) h2 (.head (mv_enter ho hw hnd hexec) h3)
  | round l f' tmps x y =>
    obtain ⟨mr, w', h2, h3⟩ := hgo (fon b tm df (.inRegion ops (i :: r) :: k)) cs
    exact fin mr w' (lone b cs w) h2 (.head (mv_round ho hw hnd hexec) h3)
  | _ => exact (hgo b cs).elim

theorem evW_same {d : Nat} {v : Opd → D} {op : IOp} {dv : D} {st' : St} (h : evW ℓ d st v op = some (dv, st')) : st'.tm = st.tm ∧ st'.df = st.df := by
  have hupd : ∀ r x, (st.upd r x).tm = st.tm ∧ (st.upd r x).df = st.df := by intro r x; unfold St.upd; split <;> exact ⟨rfl, rfl⟩
  have hdel : ∀ r, (st.del r).tm = st.tm ∧ (st.del r).df = st.df := by intro r; unfold St.del; split <;> exact ⟨rfl, rfl⟩
  cases op <;> simp only [evW, reduceCtorEq] at h
  case alloc z => split at h <;> simp at h; obtain ⟨_, rfl⟩ := h; exact ⟨rfl, rfl⟩
  case box n x => split at h <;> simp at h; obtain ⟨_, rfl⟩ := h; exact ⟨rfl, rfl⟩
  case mkmap => simp at h; obtain ⟨_, rfl⟩ := h; exact ⟨rfl, rfl⟩
  case store n a x =>
    simp only [Option.map_eq_some_iff, Prod.mk.injEq] at h
    obtain ⟨s, h, _, rfl⟩ := h
    unfold storeSt at h
    split at h <;> try (simp at h; done)
    split at h <;> try (simp at h; done)
    · split at h <;> simp at h; subst h; exact hupd _ _
    · split at h <;> simp at h; subst h; exact hupd _ _
  case mapset q m k x =>
    simp only [Option.map_eq_some_iff, Prod.mk.injEq] at h
    obtain ⟨s, h, _, rfl⟩ := h
    unfold mapsetSt at h
    split at h <;> try (simp at h; done)
    split at h <;> try (simp at h; done)
    split at h <;> try (simp at h; done)
    simp only [Option.map_eq_some_iff] at h
    obtain ⟨_, _, rfl⟩ := h
    exact hupd _ _
  case delete q m k =>
    simp only [Option.map_eq_some_iff, Prod.mk.injEq] at h
    obtain ⟨s, h, _, rfl⟩ := h
    unfold mapdelSt at h
    split at h <;> try (simp at h; done)
    split at h <;> try (simp at h; done)
    split at h <;> try (simp at h; done)
    simp only [Option.map_eq_some_iff] at h
    obtain ⟨_, _, rfl⟩ := h
    exact hupd _ _
  case append arr k g by' x y =>
    split at h <;> try (simp at h; done)
    unfold appendSt at h
    cases arr with
    | true =>
      simp only [cond_true, Option.bind_eq_some_iff] at h
      obtain ⟨⟨ys, n⟩, _, h⟩ := h
      simp only at h
      split at h
      · split at h
        · simp at h; obtain ⟨_, rfl⟩ := h; exact ⟨rfl, rfl⟩
        · split at h <;> simp at h; obtain ⟨_, rfl⟩ := h; exact ⟨rfl, rfl⟩
      · split at h <;> try (simp at h; done)
        split at h <;> simp at h; obtain ⟨_, rfl⟩ := h; exact hdel _
      · simp at h
    | false =>
      simp only [cond_false, Option.bind_eq_some_iff] at h
      obtain ⟨ys, _, h⟩ := h
      split at h
      · split at h <;> simp at h; obtain ⟨_, rfl⟩ := h; exact ⟨rfl, rfl⟩
      · split at h <;> try (simp at h; done)
        split at h <;> simp at h; obtain ⟨_, rfl⟩ := h; exact hdel _
      · simp at h
  case bslice arr k g z n ps =>
    cases arr with
    | false => simp at h
    | true =>
      simp only at h
      split at h <;> try (simp at h; done)
      simp only [Option.map_eq_some_iff, Prod.mk.injEq] at h
      obtain ⟨_, _, _, rfl⟩ := h; exact ⟨rfl, rfl⟩
  case mkslice arr k g z by' l m =>
    split at h <;> try (simp at h; done)
    unfold mksliceSt at h
    split at h <;> try (simp at h; done)
    split at h <;> try (simp at h; done)
    cases arr <;> simp at h <;> obtain ⟨_, rfl⟩ := h <;> exact ⟨rfl, rfl⟩
  case copy k x y =>
    unfold copySt at h
    split at h <;> try (simp at h; done)
    split at h <;> try (simp at h; done)
    simp only [Option.bind_eq_some_iff] at h
    obtain ⟨⟨ys, n⟩, _, h⟩ := h
    simp only at h
    split at h <;> simp at h; obtain ⟨_, rfl⟩ := h; exact hupd _ _
  case range x =>
    unfold rangeSt at h
    split at h <;> try (simp at h; done)
    split at h <;> simp at h
    obtain ⟨_, rfl⟩ := h; exact hupd _ _
  case entry x =>
    simp only [Option.map_eq_some_iff, Prod.mk.injEq] at h
    obtain ⟨_, _, _, rfl⟩ := h; exact ⟨rfl, rfl⟩

/-- Operations that neither call, panic, step an iterator nor put off. -/
theorem ev_sound (hc : CfgOk C.P c) (h : FR C ℓ nt n1 M g w st tm df) {o : Oper} {op : IOp} (hcomp : compOp c (o.dst.getD 0) o.op = some op) {dv : D} {st' : St} (hev : ev C ℓ (o.dst.getD 0) st op = some (dv, st')) :
    ∃ M' g' w' u, ((execOp (fon b tm df []).eval o).run C.P w = .ok (.value u) w' ∨ ((execOp (fon b tm df []).eval o).run C.P w = .ok .skip w' ∧ u = undef)) ∧ M.le M' ∧ Moved g g' ℓ st st' ∧ FR C ℓ nt n1 M' g' w' st' tm df ∧ VD M' dv u := by
  unfold ev at hev
  cases hW : isW op with
  | true =>
    rw [hW] at hev
    simp only [cond_true] at hev
    obtain ⟨M', g', w', u, h1, h2, h3, h4, h5, h6⟩ := evW_sound hc h.rs h.sr (h.val (b := b)) hcomp hW hev
    have hsame : st'.tm = st.tm ∧ st'.df = st.df := evW_same hev
    exact ⟨M', g', w', u, h1, h2, h6, h.step h2 h3 h5 h6 hsame.1 hsame.2, h4⟩
  | false =>
    rw [hW] at hev
    simp only [cond_false, Option.map_eq_some_iff, Prod.mk.injEq] at hev
    obtain ⟨d, h0, rfl, rfl⟩ := hev
    obtain ⟨M', w', u, h1, h2, h3, h4⟩ := evR_sound hc h.rs h.sr.get (h.val (b := b)) hcomp hW h0
    exact ⟨M', g, w', u, .inl h1, h2, Moved.refl g ℓ st, h.step h2 h3 h.sr (Moved.refl g ℓ st) rfl rfl, h4⟩

/-- Which operations come, and as what. -/
def Lined (c : Cfg) (nt : Nat) (ops : Array Oper) : List Nat → List IOper → Prop
  | [], [] => True
  | i :: r, io :: l => (∃ o, ops[i]? = some o ∧ compOper c ops o = some io ∧ ∀ t, o.dst = some t → t < nt) ∧ Lined c nt ops r l
  | _, _ => False

theorem plain_eqOp {neg : Bool} {t : TI} {x y : Opd} {op : IOp} (h : eqOp neg t x y = some op) : op.plain = true := by
  unfold eqOp at h
  split at h
  · simp at h; subst h; rfl
  · simp at h; subst h; rfl
  · simp at h; subst h; rfl
  · simp only [Option.map_eq_some_iff] at h
    obtain ⟨ks, h1, rfl⟩ := h; rfl
  · simp at h

theorem comp_plain {o : Op} {d : Nat} {op : IOp} (h : compOp c d o = some op) (n1 : ∀ g azs ats, o ≠ .call { callee := .value g, args := azs, argTypes := ats }) (n2 : ∀ y, o ≠ .panic y) (n3 : ∀ y, o ≠ .next y false) (n4 : ∀ g azs ats, o ≠ .defer { callee := .value g, args := azs, argTypes := ats }) : op.plain = true := by
  cases o <;> simp only [compOp] at h
  case call cl =>
    obtain ⟨callee, args, ats⟩ := cl
    cases callee with
    | value g => exact (n1 _ _ _ rfl).elim
    | invoke => cases h
    | builtin b =>
      simp only at h
      repeat' split at h
      all_goals first
        | (cases h; done)
        | (simp at h; subst h; rfl)
        | (simp only [Option.map_eq_some_iff] at h; obtain ⟨_, _, rfl⟩ := h; rfl)
  case panic y => exact (n2 _ rfl).elim
  case next y s =>
    cases s with
    | false => exact (n3 _ rfl).elim
    | true => cases h
  case defer cl =>
    obtain ⟨callee, args, ats⟩ := cl
    cases callee with
    | value g => exact (n4 _ _ _ rfl).elim
    | invoke => cases h
    | builtin b => cases h
  case binOp bop t x y yt =>
    cases bop <;> simp only at h
    case eql => exact plain_eqOp h
    case neq => exact plain_eqOp h
    all_goals (simp at h; subst h; rfl)
  case makeFunc f a b =>
    cases f <;> simp only at h
    case func => simp at h; subst h; rfl
    all_goals cases h
  case makeMap t r =>
    cases r with
    | some => cases h
    | none => simp at h; subst h; rfl
  case buildSlice t n ps =>
    split at h
    · simp only [Option.some.injEq] at h; subst h; rfl
    · simp at h
  all_goals first
    | (cases h; done)
    | (simp at h; subst h; rfl)
    | (unfold compOp at h; cases h; done)
    | (repeat' split at h
       all_goals first
        | (cases h; done)
        | (simp at h; subst h; rfl)
        | (simp only [Option.map_eq_some_iff] at h; obtain ⟨_, _, rfl⟩ := h; rfl)
        | (simp only [Option.bind_eq_some_iff] at h; obtain ⟨_, _, h⟩ := h; split at h <;> first | (cases h; done) | (simp at h; subst h; rfl)))

theorem comp_other {o : Op} {d : Nat} {op : IOp} (h : compOp c d o = some op) : (∀ f a, op = .call f a → ∃ g azs ats, o = .call { callee := .value g, args := azs, argTypes := ats } ∧ f = opd g ∧ a = azs.toList.map opd) ∧
    (∀ x, op = .panic x → ∃ y, o = .panic y ∧ x = opd y) ∧ (∀ x, op = .next x → ∃ y, o = .next y false ∧ x = opd y) ∧ (∀ f a, op = .defer f a → ∃ g azs ats, o = .defer { callee := .value g, args := azs, argTypes := ats } ∧ f = opd g ∧ a = azs.toList.map opd) ∧
    ((∃ cl, o = .defer cl) → ∃ f a, op = .defer f a) := by
  by_cases n1 : ∃ g azs ats, o = .call { callee := .value g, args := azs, argTypes := ats }
  · obtain ⟨g, azs, ats, rfl⟩ := n1
    simp only [compOp, Option.some.injEq] at h
    subst h
    refine ⟨fun f a e => ?_, fun x e => by simp at e, fun x e => by simp at e, fun f a e => by simp at e, fun ⟨cl, e⟩ => by simp at e⟩
    simp at e
    exact ⟨g, azs, ats, rfl, e.1.symm, e.2.symm⟩
  by_cases n2 : ∃ y, o = .panic y
  · obtain ⟨y, rfl⟩ := n2
    simp only [compOp, Option.some.injEq] at h
    subst h
    refine ⟨fun f a e => by simp at e, fun x e => ?_, fun x e => by simp at e, fun f a e => by simp at e, fun ⟨cl, e⟩ => by simp at e⟩
    simp at e
    exact ⟨y, rfl, e.symm⟩
  by_cases n3 : ∃ y, o = .next y false
  · obtain ⟨y, rfl⟩ := n3
    simp only [compOp, Option.some.injEq] at h
    subst h
    refine ⟨fun f a e => by simp at e, fun x e => by simp at e, fun x e => ?_, fun f a e => by simp at e, fun ⟨cl, e⟩ => by simp at e⟩
    simp at e
    exact ⟨y, rfl, e.symm⟩
  by_cases n4 : ∃ g azs ats, o = .defer { callee := .value g, args := azs, argTypes := ats }
  · obtain ⟨g, azs, ats, rfl⟩ := n4
    simp only [compOp, Option.some.injEq] at h
    subst h
    refine ⟨fun f a e => by simp at e, fun x e => by simp at e, fun x e => by simp at e, fun f a e => ?_, fun ⟨cl, e⟩ => ⟨_, _, rfl⟩⟩
    simp at e
    exact ⟨g, azs, ats, rfl, e.1.symm, e.2.symm⟩
  have hp := comp_plain h (fun g azs ats e => n1 ⟨g, azs, ats, e⟩) (fun y e => n2 ⟨y, e⟩) (fun y e => n3 ⟨y, e⟩) (fun g azs ats e => n4 ⟨g, azs, ats, e⟩)
  refine ⟨fun f a e => by subst e; simp [IOp.plain] at hp, fun x e => by subst e; simp [IOp.plain] at hp, fun x e => by subst e; simp [IOp.plain] at hp, fun f a e => by subst e; simp [IOp.plain] at hp, fun ⟨cl, e⟩ => ?_⟩
  subst e
  obtain ⟨callee, args, ats⟩ := cl
  cases callee with
  | value g => exact (n4 ⟨_, _, _, rfl⟩).elim
  | invoke => simp [compOp] at h
  | builtin b => simp [compOp] at h

theorem exec_sound (hc : CfgOk C.P c) (h : FR C ℓ nt n1 M g w st tm df) {ops : Array Oper} {i : Nat} {o : Oper} {r : List Nat} (ho : ops[i]? = some o) (hw : Region.wanted o (yielded ops tm) = true) (hdst : ∀ t, o.dst = some t → t < nt) {op : IOp} (hcomp : compOp c (o.dst.getD 0) o.op = some op)
    (hb : b.roundOf = none ∨ ∀ f a, op ≠ .defer f a) {K : D → St → Prop} {Q : Ex → St → Prop} (hex : execW C ℓ (o.dst.getD 0) op st K Q)
    (hK : ∀ (v : D) (st' : St) (M' : Mem) (g' : OwnF) (w' : World) (u : Value) (df' : List Deferred), M.le M' → Moved g g' ℓ st st' → FR C ℓ nt n1 M' g' w' st' tm df' → VD M' v u → K v st' → Ends C ℓ nt n1 b cs k M' g' st' (lone (fon b (putv tm o.dst u) df' (.inRegion ops r :: k)) cs w') Q) :
    Ends C ℓ nt n1 b cs k M g st (lone (fon b tm df (.inRegion ops (i :: r) :: k)) cs w) Q := by
  obtain ⟨hcall, hpan, hnext, hdef, hdef'⟩ := comp_other hcomp
  have hother : (∀ f a, op ≠ .call f a) → (∀ x, op ≠ .panic x) → (∀ x, op ≠ .next x) → (∀ f a, op ≠ .defer f a) → (match ev C ℓ (o.dst.getD 0) st op with | some (v, st') => K v st' | none => False) → Ends C ℓ nt n1 b cs k M g st (lone (fon b tm df (.inRegion ops (i :: r) :: k)) cs w) Q := by
    intro n1 n2 n3 n4 hev
    have hnd : ∀ c, o.op ≠ .defer c := by
      intro c e
      obtain ⟨f, a, e2⟩ := hdef' ⟨c, e⟩
      exact n4 f a e2
    split at hev
    case h_2 => exact hev.elim
    rename_i v st' he
    obtain ⟨M', g', w', u, h1, h2, h3, h4, h5⟩ := ev_sound (b := b) hc h hcomp he
    refine Ends.after h2 h3 ?_
    rcases h1 with h1 | ⟨h1, rfl⟩
    · exact Ends.of_steps (.one (mv_value ho hw hnd h1)) (hK v st' M' g' w' u df h2 h3 h4 h5 hev)
    · exact Ends.of_steps (.one (mv_skipped ho hw hnd h1)) (hK v st' M' g' w' undef df h2 h3 h4 h5 hev)
  unfold execW at hex
  split at hex
  · rename_i f a
    obtain ⟨gg, azs, ats, e1, rfl, rfl⟩ := hcall f a rfl
    exact call_sound h ho e1 hw hex hdst (fun v st' M' g' w' u h1 h2 h3 h4 h5 => hK v st' M' g' w' u df h1 h2 h3 h4 h5)
  · rename_i x
    obtain ⟨y, e1, rfl⟩ := hpan x rfl
    obtain ⟨hif, hq⟩ := hex
    have hv := h.val (b := b) y
    obtain ⟨t, u, hu⟩ : ∃ t u, (fon b tm df []).eval y = .iface t u := by
      generalize he : st.val C.G (opd y) = dv at hv hif
      unfold isIface at hif
      split at hif
      · simp only [VD, V] at hv; obtain ⟨u, h1, _⟩ := hv; exact ⟨_, u, h1⟩
      · simp only [VD] at hv; obtain ⟨u, h1, _⟩ := hv; exact ⟨_, u, h1⟩
      · simp at hif
    have hrun : (execOp (fon b tm df []).eval o).run C.P w = .halt (.panic ((fon b tm df []).eval y)) w := by
      obtain ⟨dst, op, ty, pos, aft, grd⟩ := o
      simp only at e1; subst e1
      simp [execOp, Instr.panic, hu, goPanic]
    exact ⟨_, st, M, g, tm, df, w, hq, h, .refl M, Moved.refl g ℓ st, _, _, hv, .one (mv_panic ho hw (fun c e => by rw [e1] at e; cases e) hrun)⟩
  · rename_i x
    obtain ⟨y, e1, rfl⟩ := hnext x rfl
    have hv := h.val (b := b) y
    unfold nextW at hex
    split at hex
    case h_2 => exact hex.elim
    rename_i m q he
    rw [he] at hv
    split at hex
    case h_2 => exact hex.elim
    rename_i es q' seen hg
    obtain ⟨rfl, hx1, hx2⟩ := hex
    have hgm := h.sr.get _ _ hg
    have hv' := hv
    have hmc : ∀ l, m ≠ .ctr l := by
      obtain ⟨p, hp, _⟩ := h.rs.blk _ _ hgm
      obtain ⟨l, s', i', hrv⟩ := h.rs.plv m p hp
      intro l e; rw [hrv] at e; cases e
    obtain ⟨v, w', hrun, hr⟩ := next_ok (ty := o.type) h.rs hgm hmc hv
    have hexec : (execOp (fon b tm df []).eval o).run C.P w = .ok (.value v) w' := by
      obtain ⟨dst, op, ty, pos, aft, grd⟩ := o
      simp only at e1; subst e1
      simp [execOp, hrun]
    have hnd : ∀ c, o.op ≠ .defer c := fun c e => by rw [e1] at e; cases e
    rcases hr with ⟨hl, rfl, hrs⟩ | ⟨hl, i', kk, dd, hi, hns, hvd, hrs⟩
    · refine Ends.of_steps (.one (mv_value ho hw hnd hexec)) (hK _ st M g w' _ df (.refl M) (Moved.refl g ℓ st) (h.step (.refl M) hrs h.sr (Moved.refl g ℓ st) rfl rfl) ?_ (hx1 hl))
      simp only [VD, V]
      exact ⟨#[.bool false], rfl, by simp [Vl, V]⟩
    · obtain ⟨h5, h6⟩ := h.sr.upd hg (.mapl es q (seen ++ [i']))
      refine Ends.after (.refl M) h6 (Ends.of_steps (.one (mv_value ho hw hnd hexec)) (hK _ _ M _ w' _ df (.refl M) h6 (h.step (.refl M) hrs h5 h6 ?_ ?_) hvd (hx2 hl i' kk dd hi hns)))
      · unfold St.upd; split <;> rfl
      · unfold St.upd; split <;> rfl
  · rename_i f a
    obtain ⟨gg, azs, ats, e1, rfl, rfl⟩ := hdef f a rfl
    have hro : b.roundOf = none := hb.resolve_right (fun hh => hh _ _ rfl)
    obtain ⟨hfn, hk⟩ := hex
    have hv := h.val (b := b) gg
    obtain ⟨q, first, caps, hq⟩ : ∃ q first caps, (fon b tm df []).eval gg = .func (.func q) first caps := by
      generalize he : st.val C.G (opd gg) = dv at hv hfn
      unfold isFn at hfn
      split at hfn
      · simp only [VD, V] at hv; obtain ⟨x, y, h1, _⟩ := hv; exact ⟨_, x, y, h1⟩
      · simp only [VD] at hv; obtain ⟨x, y, h1, _⟩ := hv; exact ⟨_, x, y, h1⟩
      · simp at hfn
    have hd : ∀ w, (Deferred.ofValue ((fon b tm df []).eval gg) (azs.toList.map (fon b tm df []).eval).toArray).run C.P w = .ok { target := .fn (.func q) caps, args := first ++ (azs.toList.map (fon b tm df []).eval).toArray } w := by
      intro w; rw [hq]; simp [Deferred.ofValue]
    have has : (azs.toList.map (fon b tm df []).eval).toArray = azs.map (fon b tm df []).eval := by
      apply Array.ext'; simp
    have hres : (resolve (fon b tm df []).eval { callee := .value gg, args := azs, argTypes := ats } o.type).run C.P w = .ok { target := .fn (.func q) caps, args := first ++ (azs.toList.map (fon b tm df []).eval).toArray } w := by
      rw [← hd w, has]; simp [resolve]
    have hmv : Moved g g ℓ st { st with df := (st.val C.G (opd gg), (azs.toList.map opd).map (st.val C.G)) :: st.df } := ⟨fun _ _ h _ _ _ => h, fun q h => .inl h⟩
    have hfr : FR C ℓ nt n1 M g w { st with df := (st.val C.G (opd gg), (azs.toList.map opd).map (st.val C.G)) :: st.df } tm ({ target := .fn (.func q) caps, args := first ++ (azs.toList.map (fon b tm df []).eval).toArray } :: df) := by
      refine ⟨h.rs, ⟨h.sr.own, h.sr.out, h.sr.apart, h.sr.ctr, h.sr.noctr⟩, h.sz, h.tm, .real hv ?_ hd (fun b e => by cases e) ?_, h.n1⟩
      · have : ∀ l : List Operand, VDl M ((l.map opd).map (st.val C.G)) (l.map (fon b tm df []).eval) := by
          intro l
          induction l with
          | nil => simp [VDl]
          | cons a l ih => simp only [List.map_cons, VDl]; exact ⟨h.val a, ih⟩
        exact this _
      · exact DR.move (Mem.le.refl M) hmv h.df
    exact Ends.after (.refl M) hmv (Ends.of_steps (.one (mv_defer ho hw e1 hro hres)) (hK undefD _ M g w undef _ (.refl M) hmv hfr (undef_ok M) hk))
  · rename_i n1 n2 n3 n4
    exact hother n1 n2 n3 n4 hex

/-- A row of operations, in its own order. -/
theorem ops_sound (hc : CfgOk C.P c) {ops : Array Oper} : ∀ (l : List IOper) (r : List Nat), Lined c nt ops r l → (b.roundOf = none ∨ ∀ io ∈ l, ∀ f a, io.op ≠ .defer f a) → ∀ {M : Mem} {g : OwnF} {w : World} {st : St} {tm : Array Value} {df : List Deferred} {Q : Ex → St → Prop},
    FR C ℓ nt n1 M g w st tm df → wpOps C ℓ l st Q → Ends C ℓ nt n1 b cs k M g st (lone (fon b tm df (.inRegion ops r :: k)) cs w) Q
  | [], r, hl, _, M, g, w, st, tm, df, Q, h, hq => by
    cases r with
    | cons => exact hl.elim
    | nil =>
      simp only [wpOps] at hq
      exact ⟨.normal, st, M, g, tm, df, w, hq, h, .refl M, Moved.refl g ℓ st, .one mv_regionEnd⟩
  | io :: l, r, hl, hb, M, g, w, st, tm, df, Q, h, hq => by
    cases r with
    | nil => exact hl.elim
    | cons i r =>
      obtain ⟨⟨o, ho, hco, hdst⟩, hl⟩ := hl
      have hb' : b.roundOf = none ∨ ∀ io ∈ l, ∀ f a, io.op ≠ .defer f a := hb.imp id (fun hh x hx => hh x (by simp [hx]))
      have rest := fun {M : Mem} {g : OwnF} {w : World} {st : St} {tm : Array Value} {df : List Deferred} => ops_sound hc l r hl hb' (M := M) (g := g) (w := w) (st := st) (tm := tm) (df := df) (Q := Q)
      simp only [compOper, Option.bind_eq_some_iff] at hco
      obtain ⟨op, hcomp, hco⟩ := hco
      have go : ∀ (gd : Option (Nat × Bool)), io = ⟨o.dst, gd, op⟩ → Region.wanted o (yielded ops tm) = true → execW C ℓ (o.dst.getD 0) op st (fun v st' => wpOps C ℓ l (st'.put o.dst v) Q) Q → Ends C ℓ nt n1 b cs k M g st (lone (fon b tm df (.inRegion ops (i :: r) :: k)) cs w) Q := by
        intro gd e hw hex
        refine exec_sound hc h ho hw hdst hcomp (hb.imp id (fun hh f a e2 => hh io (by simp) f a (by rw [e]; exact e2))) hex (fun v st' M' g' w' u df' h1 h2 h3 h4 h5 => ?_)
        exact Ends.after (.refl M') (Moved.put g' ℓ st' o.dst v) (rest (h3.put hdst h4) h5)
      split at hco
      · rename_i hg
        simp only [Option.some.injEq] at hco
        subst hco
        simp only [wpOps] at hq
        exact go none rfl (by simp [Region.wanted, hg]) hq
      · rename_i j want hg
        simp only [Option.map_eq_some_iff] at hco
        obtain ⟨t, ht, rfl⟩ := hco
        simp only [wpOps] at hq
        split at hq
        case h_2 => exact hq.elim
        rename_i x hs
        have hw := wanted_of h hg ht hs
        cases x with
        | true => exact go (some (t, want)) rfl hw (hq.1 rfl)
        | false =>
          exact Ends.after (.refl M) (Moved.put g ℓ st o.dst undefD) (Ends.of_steps (.one (mv_unwanted ho hw)) (rest (h.put hdst (undef_ok M)) (hq.2 rfl)))

end
end Go.Abs

/- The abstract layer, part 32: code, at the machine: all but drawn rows and ranges over functions. No conditions. -/
namespace Go.Abs
open Go.RowKit

def ioBnd (nt : Nat) (l : List IOper) : Bool := l.all fun io => match io.dst with | some t => decide (t < nt) | none => true
def ioNoDefer (l : List IOper) : Bool := l.all fun io => match io.op with | .defer _ _ => false | _ => true
/-- Nothing is put off, and there is no range over a function: what a round may hold. -/
def IR.nodefer : IR → Bool
  | .ops l => ioNoDefer l
  | .seq _ a b => a.nodefer && b.nodefer
  | .cond _ a b => a.nodefer && b.nodefer
  | .block _ a => a.nodefer
  | .loop a => a.nodefer
  | .rangef _ _ _ _ => false
  | _ => true
def IR.fits (nt : Nat) : IR → Bool
  | .ops l => ioBnd nt l
  | .draw l => ioBnd nt (l.map (·.io))
  | .seq _ a b => a.fits nt && b.fits nt
  | .cond _ a b => a.fits nt && b.fits nt
  | .block _ a => a.fits nt
  | .loop a => a.fits nt
  | .rangef _ ps a b => a.fits nt && b.fits nt && a.nodefer && b.nodefer && ps.all fun p => decide (p < nt)
  | _ => true

/-- Code that the small form tells the truth about. -/
def Sound (C : Ctx) (c : Cfg) (nt : Nat) (code : Code) : Prop :=
  ∀ ir : IR, comp c code = some ir.strip → ir.fits nt = true → ∀ (ℓ n1 : Nat) (b : Frame) (cs : List Frame) (k : List Item) (M : Mem) (g : OwnF) (w : World) (st : St) (tm : Array Value) (df : List Deferred) (Q : Ex → St → Prop), (b.roundOf = none ∨ ir.nodefer = true) → (∃ fn, C.P.funcs[b.fn]? = some fn) →
    FR C ℓ nt n1 M g w st tm df → wp C ℓ ir st Q → Ends C ℓ nt n1 b cs k M g st (lone (fon b tm df (.code code :: k)) cs w) Q

section
variable {C : Ctx} {c : Cfg} {nt : Nat}

theorem mapM_lined {ops : Array Oper} (hb : ∀ (i : Nat) o, ops[i]? = some o → ∀ io, compOper c ops o = some io → ∀ t, o.dst = some t → t < nt) : ∀ (n i : Nat) (l : List IOper), (ops.toList.drop i).mapM (compOper c ops) = some l → ops.size = i + n → Lined c nt ops ((List.range n).map (i + ·)) l
  | 0, i, l, h, hs => by
    have : ops.toList.drop i = [] := List.drop_eq_nil_of_le (by simp; omega)
    rw [this] at h
    simp at h; subst h
    simp [Lined]
  | n + 1, i, l, h, hs => by
    have hi : i < ops.toList.length := by simp; omega
    rw [List.drop_eq_getElem_cons hi] at h
    simp only [List.mapM_cons, Option.bind_eq_bind, Option.bind_eq_some_iff] at h
    obtain ⟨io, h1, l', h2, h3⟩ := h
    simp at h3; subst h3
    have ih := mapM_lined hb n (i + 1) l' h2 (by omega)
    rw [List.range_succ_eq_map, List.map_cons, List.map_map]
    have hio : ops[i]? = some ops.toList[i] := by rw [← Array.getElem?_toList]; exact List.getElem?_eq_getElem hi
    refine ⟨⟨_, by simpa using hio, h1, hb i _ hio _ h1⟩, ?_⟩
    have : (fun x => i + x) ∘ Nat.succ = fun x => i + 1 + x := by funext x; simp; omega
    rw [this]; exact ih

theorem sound_skip : Sound C c nt .skip := by
  intro ir hc _ ℓ n1 b cs k M g w st tm df Q _ hbf h hq
  simp only [comp, Option.some.injEq] at hc
  cases ir <;> simp only [IR.strip, reduceCtorEq, IR.exit.injEq] at hc
  try subst hc
  exact ⟨.normal, st, M, g, tm, df, w, hq, h, .refl M, Moved.refl g ℓ st, .one mv_skip⟩
theorem sound_ret : Sound C c nt .ret := by
  intro ir hc _ ℓ n1 b cs k M g w st tm df Q _ hbf h hq
  simp only [comp, Option.some.injEq] at hc
  cases ir <;> simp only [IR.strip, reduceCtorEq, IR.exit.injEq] at hc
  try subst hc
  exact ⟨.ret, st, M, g, tm, df, w, hq, h, .refl M, Moved.refl g ℓ st, k, .refl _ _⟩
theorem sound_exit {id : Nat} : Sound C c nt (.exit id) := by
  intro ir hc _ ℓ n1 b cs k M g w st tm df Q _ hbf h hq
  simp only [comp, Option.some.injEq] at hc
  cases ir <;> simp only [IR.strip, reduceCtorEq, IR.exit.injEq] at hc
  try subst hc
  exact ⟨.exit id, st, M, g, tm, df, w, hq, h, .refl M, Moved.refl g ℓ st, k, rfl, .refl _ _⟩

/-- What comes of the first part goes on. -/
theorem Ends.next {ℓ n1 : Nat} {b : Frame} {cs : List Frame} {k k' : List Item} {M : Mem} {g : OwnF} {st : St} {m : Machine} {Q Q' : Ex → St → Prop} (h : Ends C ℓ nt n1 b cs k' M g st m Q')
    (hn : ∀ st' M' g' tm' df' w', Q' .normal st' → FR C ℓ nt n1 M' g' w' st' tm' df' → M.le M' → Moved g g' ℓ st st' → Ends C ℓ nt n1 b cs k M' g' st' (lone (fon b tm' df' k') cs w') Q)
    (hx : ∀ id st', Q' (.exit id) st' → Q (.exit id) st' ∧ exitTo id k' = exitTo id k) (hr : ∀ st', Q' .ret st' → Q .ret st') (hp : ∀ d st', Q' (.pan d) st' → Q (.pan d) st') : Ends C ℓ nt n1 b cs k M g st m Q := by
  obtain ⟨e, st', M', g', tm', df', w', h1, h2, h3, h4, h5⟩ := h
  cases e with
  | normal => exact Ends.of_steps h5 (Ends.after h3 h4 (hn st' M' g' tm' df' w' h1 h2 h3 h4))
  | exit id =>
    obtain ⟨k2, e1, e2⟩ := h5
    obtain ⟨q1, q2⟩ := hx id st' h1
    exact ⟨.exit id, st', M', g', tm', df', w', q1, h2, h3, h4, k2, e1.trans q2, e2⟩
  | ret => exact ⟨.ret, st', M', g', tm', df', w', hr st' h1, h2, h3, h4, h5⟩
  | pan d => exact ⟨.pan d, st', M', g', tm', df', w', hp d st' h1, h2, h3, h4, h5⟩

theorem ownGet_keep (ss : List Nat) : ∀ (o : Own) (r : Ref) (b : Blk), ownGet (ownKeep ss o) r = some b → ownGet o r = some b
  | [], r, b, h => h
  | (q, c) :: o, r, b, h => by
    have ih := ownGet_keep ss o r b
    have hs : ∀ l s i, q = .v l s i → memN ss s = false → ownGet (ownKeep ss o) r = some b → q.same r = false := by
      intro l s i e hc hg
      cases e2 : q.same r with
      | false => rfl
      | true =>
        subst e
        cases r <;> simp [Ref.same] at e2
        rename_i l' s' i'
        obtain ⟨rfl, rfl⟩ := e2
        exfalso
        clear ih h
        induction o with
        | nil => simp [ownKeep, ownGet] at hg
        | cons p o ih =>
          obtain ⟨q, c'⟩ := p
          cases q with
          | v l2 s2 i2 =>
            simp only [ownKeep] at hg
            cases hc2 : memN ss s2 with
            | false => rw [hc2] at hg; exact ih hg
            | true =>
              rw [hc2] at hg
              simp only [cond_true, ownGet] at hg
              have : (Ref.same (.v l2 s2 i2) (.v l s i')) = false := by
                simp only [Ref.same, Bool.and_eq_false_iff, beq_eq_false_iff_ne]
                right; intro e; subst e; rw [hc] at hc2; simp at hc2
              rw [this] at hg
              exact ih hg
          | ctr l2 => simp only [ownKeep, ownGet, Ref.same, cond_false] at hg; exact ih hg
          | obj l2 => simp only [ownKeep, ownGet, Ref.same, cond_false] at hg; exact ih hg
    have main : ownGet ((q, c) :: ownKeep ss o) r = some b → ownGet ((q, c) :: o) r = some b := by
      intro h
      simp only [ownGet] at h ⊢
      cases e : q.same r with
      | true => rw [e] at h; exact h
      | false => rw [e] at h; exact ih h
    cases q with
    | v l s i =>
      simp only [ownKeep] at h
      cases hc : memN ss s with
      | true => rw [hc] at h; exact main h
      | false =>
        rw [hc] at h
        simp only [cond_false] at h
        simp only [ownGet]
        rw [hs l s i rfl hc h]
        exact ih h
    | ctr l => exact main h
    | obj l => exact main h

theorem tmGet_keep (st : St) : ∀ (ts : List Nat) (t : Nat), tmGet (ts.map fun t => (t, tmGet st.tm t)) t = tmGet st.tm t ∨ tmGet (ts.map fun t => (t, tmGet st.tm t)) t = .dat .any
  | [], t => .inr rfl
  | k :: ts, t => by
    simp only [List.map_cons, tmGet_set]
    by_cases h : t = k
    · subst h; left; simp
    · rw [if_neg h]; exact tmGet_keep st ts t

theorem FR.keep {ℓ n1 : Nat} {M : Mem} {g : OwnF} {w : World} {st : St} {tm : Array Value} {df : List Deferred} (h : FR C ℓ nt n1 M g w st tm df) (k : Option (List Nat × List Nat)) : FR C ℓ nt n1 M g w (st.keep k) tm df ∧ Moved g g ℓ st (st.keep k) := by
  cases k with
  | none => exact ⟨h, Moved.refl g ℓ st⟩
  | some p =>
    obtain ⟨ts, ss⟩ := p
    have hmv : Moved g g ℓ st (st.keep (some (ts, ss))) := by
      refine ⟨fun _ _ h _ _ _ => h, fun q hq => .inl ?_⟩
      rcases hq with hq | hq
      · obtain ⟨x, hx⟩ := has_iff hq
        exact .inl (has_of (ownGet_keep ss _ _ _ hx))
      · exact .inr hq
    refine ⟨⟨h.rs, ⟨fun r b e => h.sr.own r b (ownGet_keep ss _ _ _ e), h.sr.out, fun r hr => ?_, h.sr.ctr, ⟨fun hr => ?_, h.sr.noctr.2⟩⟩, h.sz, fun t => ?_, h.df.move (.refl M) hmv, h.n1⟩, hmv⟩
    · obtain ⟨x, hx⟩ := has_iff hr
      exact h.sr.apart r (has_of (ownGet_keep ss _ _ _ hx))
    · obtain ⟨x, hx⟩ := has_iff hr
      exact h.sr.noctr.1 (has_of (ownGet_keep ss _ _ _ hx))
    · simp only [St.keep]
      rcases tmGet_keep st ts t with e | e
      · rw [e]; exact h.tm t
      · rw [e]; simp [VD, V]

theorem sound_seq {x y : Code} (hx : Sound C c nt x) (hy : Sound C c nt y) : Sound C c nt (.seq x y) := by
  intro ir hc hf ℓ n1 b cs k M g w st tm df Q hb hbf h hq
  simp only [comp, Option.bind_eq_some_iff, Option.map_eq_some_iff] at hc
  obtain ⟨j1, h1, j2, h2, e⟩ := hc
  cases ir <;> simp only [IR.strip, reduceCtorEq] at e
  rename_i kp i1 i2
  simp only [IR.seq.injEq, true_and] at e
  obtain ⟨rfl, rfl⟩ := e
  simp only [IR.fits, Bool.and_eq_true] at hf
  simp only [IR.nodefer, Bool.and_eq_true] at hb
  simp only [wp] at hq
  refine Ends.of_steps (.one mv_seq) (Ends.next (hx i1 h1 hf.1 ℓ n1 b cs (.code y :: k) M g w st tm df _ (hb.imp id (·.1)) hbf h hq) ?_ ?_ ?_ ?_)
  · intro st' M' g' tm' df' w' q1 q2 _ _
    obtain ⟨q3, q4⟩ := q2.keep kp
    exact Ends.after (.refl M') q4 (hy i2 h2 hf.2 ℓ n1 b cs k M' g' w' _ tm' df' Q (hb.imp id (·.2)) hbf q3 q1)
  · intro id st' q; exact ⟨q, rfl⟩
  · intro st' q; exact q
  · intro d st' q; exact q

theorem sound_cond {o : Operand} {x y : Code} (hx : Sound C c nt x) (hy : Sound C c nt y) : Sound C c nt (.cond o x y) := by
  intro ir hc hf ℓ n1 b cs k M g w st tm df Q hb hbf h hq
  simp only [comp, Option.bind_eq_some_iff, Option.map_eq_some_iff] at hc
  obtain ⟨j1, h1, j2, h2, e⟩ := hc
  cases ir <;> simp only [IR.strip, reduceCtorEq] at e
  rename_i oc i1 i2
  simp only [IR.cond.injEq] at e
  obtain ⟨rfl, rfl, rfl⟩ := e
  simp only [IR.fits, Bool.and_eq_true] at hf
  simp only [IR.nodefer, Bool.and_eq_true] at hb
  simp only [wp] at hq
  have hv := h.val (b := b) o
  split at hq
  case h_2 => exact hq.elim
  rename_i t e
  rw [e] at hv
  simp only [VD, V] at hv
  refine Ends.of_steps (.one (mv_cond hv)) ?_
  cases t with
  | true => exact hx i1 h1 hf.1 ℓ n1 b cs k M g w st tm df Q (hb.imp id (·.1)) hbf h (hq.1 rfl)
  | false => exact hy i2 h2 hf.2 ℓ n1 b cs k M g w st tm df Q (hb.imp id (·.2)) hbf h (hq.2 rfl)

theorem sound_block {id : Nat} {x : Code} (hx : Sound C c nt x) : Sound C c nt (.block id x) := by
  intro ir hc hf ℓ n1 b cs k M g w st tm df Q hb hbf h hq
  simp only [comp, Option.map_eq_some_iff] at hc
  obtain ⟨j1, h1, e⟩ := hc
  cases ir <;> simp only [IR.strip, reduceCtorEq] at e
  rename_i id2 i1
  simp only [IR.block.injEq] at e
  obtain ⟨rfl, rfl⟩ := e
  simp only [IR.fits] at hf
  simp only [IR.nodefer] at hb
  simp only [wp] at hq
  obtain ⟨e, st', M', g', tm', df', w', q1, q2, q3, q4, q5⟩ := hx i1 h1 hf ℓ n1 b cs (.inBlock id :: k) M g w st tm df _ hb hbf h hq
  refine Ends.of_steps (.one mv_block) ?_
  cases e with
  | normal => exact ⟨.normal, st', M', g', tm', df', w', q1, q2, q3, q4, q5.trans (.one mv_inBlock)⟩
  | exit j =>
    obtain ⟨k2, e1, e2⟩ := q5
    simp only at q1
    split at q1
    · rename_i ej
      subst ej
      simp only [exitTo, beq_self_eq_true, if_true] at e1
      exact ⟨.normal, st', M', g', tm', df', w', q1, q2, q3, q4, e2.trans (.one (mv_exit e1))⟩
    · rename_i ej
      have : (id == j) = false := by simpa using Ne.symm ej
      simp only [exitTo, this] at e1
      exact ⟨.exit j, st', M', g', tm', df', w', q1, q2, q3, q4, k2, by simpa using e1, e2⟩
  | ret => exact ⟨.ret, st', M', g', tm', df', w', q1, q2, q3, q4, q5⟩
  | pan d => exact ⟨.pan d, st', M', g', tm', df', w', q1, q2, q3, q4, q5⟩

theorem sound_loop {x : Code} (hx : Sound C c nt x) : Sound C c nt (.loop x) := by
  intro ir hc hf ℓ n1 b cs k M g w st tm df Q hb hbf h hq
  simp only [comp, Option.map_eq_some_iff] at hc
  obtain ⟨j1, h1, e⟩ := hc
  cases ir <;> simp only [IR.strip, reduceCtorEq] at e
  rename_i i1
  simp only [IR.loop.injEq] at e
  subst e
  simp only [IR.fits] at hf
  simp only [IR.nodefer] at hb
  simp only [wp] at hq
  obtain ⟨n, hq⟩ := hq
  have key : ∀ (n : Nat) (M : Mem) (g : OwnF) (w : World) (st : St) (tm : Array Value) (df : List Deferred), FR C ℓ nt n1 M g w st tm df → loopN C ℓ (wp C ℓ i1) n st Q → Ends C ℓ nt n1 b cs k M g st (lone (fon b tm df (.code x :: .inLoop x :: k)) cs w) Q := by
    intro n
    induction n with
    | zero => intro M g w st tm df h hq; exact hq.elim
    | succ n ih =>
      intro M g w st tm df h hq
      obtain ⟨st0, ⟨hdf, hsh⟩, hq⟩ := hq
      obtain ⟨M1, g1, hle1, hrs1, hsr1, hm1, htm1⟩ := hsh M g w (fun t => tm.getD t undef) h.rs h.sr h.tm
      have h0 : FR C ℓ nt n1 M1 g1 w st0 tm df := ⟨hrs1, hsr1, h.sz, htm1, by rw [hdf]; exact h.df.move hle1 hm1, Nat.le_trans h.n1 hle1.hs⟩
      refine Ends.after hle1 hm1 (Ends.next (hx i1 h1 hf ℓ n1 b cs (.inLoop x :: k) M1 g1 w st0 tm df _ hb hbf h0 hq) ?_ ?_ ?_ ?_)
      · intro st' M' g' tm' df' w' q1 q2 _ _
        exact Ends.of_steps (.one mv_inLoop) (ih M' g' w' st' tm' df' q2 q1)
      · intro id st' q; exact ⟨q, rfl⟩
      · intro st' q; exact q
      · intro d st' q; exact q
  exact Ends.of_steps (.one mv_loop) (key n M g w st tm df h hq)

theorem lined_of {ops : Array Oper} {l : List IOper} (h : ops.toList.mapM (compOper c ops) = some l) (hf : ioBnd nt l = true) : Lined c nt ops (List.range ops.size) l := by
  have hb : ∀ (i : Nat) o, ops[i]? = some o → ∀ io, compOper c ops o = some io → ∀ t, o.dst = some t → t < nt := by
    intro i o ho io hio t ht
    obtain ⟨_, hm⟩ := mapM_get _ _ _ h
    obtain ⟨x, hx, hx2⟩ := hm i o (by rw [Array.getElem?_toList]; exact ho)
    rw [hio] at hx2
    simp only [Option.some.injEq] at hx2
    subst hx2
    have hall := List.all_eq_true.1 hf io (List.mem_of_getElem? hx)
    have hd : io.dst = o.dst := by
      simp only [compOper, Option.bind_eq_some_iff] at hio
      obtain ⟨op, _, hio⟩ := hio
      split at hio
      · simp only [Option.some.injEq] at hio; subst hio; rfl
      · simp only [Option.map_eq_some_iff] at hio
        obtain ⟨_, _, rfl⟩ := hio; rfl
    rw [hd, ht] at hall
    simpa using hall
  have := mapM_lined hb ops.size 0 l (by simpa using h) (by simp)
  simpa using this

theorem sound_region {id : Nat} {ops : Array Oper} (hc0 : CfgOk C.P c) : Sound C c nt (.region id ops false) := by
  intro ir hc hf ℓ n1 b cs k M g w st tm df Q hb hbf h hq
  simp only [comp, Bool.false_eq_true, if_false, Option.map_eq_some_iff] at hc
  obtain ⟨l, h1, e⟩ := hc
  cases ir <;> simp only [IR.strip, reduceCtorEq] at e
  rename_i l2
  simp only [IR.ops.injEq] at e
  subst e
  simp only [IR.fits] at hf
  simp only [IR.nodefer] at hb
  simp only [wp] at hq
  refine Ends.of_steps (.one mv_region) (ops_sound hc0 l _ (lined_of h1 hf) (hb.imp (fun x => x) (fun hn io hio f a e => ?_)) h hq)
  have := List.all_eq_true.1 hn io hio
  rw [e] at this
  simp at this

end
end Go.Abs

/- The abstract layer, part 33: a function's frame, from its call to its return. No conditions. -/
namespace Go.Abs
open Go.RowKit

def resD (st : St) : RV → Option D
  | .t n => some (tmGet st.tm n)
  | .cell a agg n => loadD st.get agg n (tmGet st.tm a)
def resL (st : St) : List RV → Option (List D)
  | [] => some []
  | r :: l => match resD st r, resL st l with | some d, some ds => some (d :: ds) | _, _ => none
def resV : List D → D
  | [d] => d
  | l => mkTup l
/-- Told with less. -/
def D.le (d d' : D) : Prop := ∀ M v, VD M d v → VD M d' v
theorem D.le.refl (d : D) : d.le d := fun _ _ h => h
theorem D.le.trans {a b c : D} (h : a.le b) (k : b.le c) : a.le c := fun M v x => k M v (h M v x)

/-- How a function's body must end. -/
def fnK (res : List RV) (Q : Res → OwnF → Prop) : Ex → St → Prop
  | .pan d, st => st.df = [] ∧ ∃ S' : OwnF, S'.sub st ∧ Q (.pan d) S'
  | .exit _, _ => False
  | _, st => st.df = [] ∧ ∃ ds d' S', resL st res = some ds ∧ (resV ds).le d' ∧ OwnF.sub S' st ∧ Q (.ret d') S'

def argSlots : Nat → List D → List (Nat × D)
  | _, [] => []
  | i, d :: l => (i, d) :: argSlots (i + 1) l

theorem argSlots_ok {M : Mem} (u : Nat → Value) : ∀ (i : Nat) (ds : List D) (vs : List Value), VDl M ds vs → (∀ (j : Nat) v, vs[j]? = some v → u (i + j) = v) → ∀ t, VD M (tmGet (argSlots i ds) t) (u t)
  | i, [], vs, _, _, t => by simp [argSlots, tmGet, VD, V]
  | i, d :: ds, [], h, _, t => by simp [VDl] at h
  | i, d :: ds, v :: vs, h, hu, t => by
    simp only [VDl] at h
    simp only [argSlots, tmGet_set]
    by_cases e : t = i
    · subst e; rw [if_pos rfl]; have := hu 0 v rfl; rw [Nat.add_zero] at this; rw [this]; exact h.1
    · rw [if_neg e]
      exact argSlots_ok u (i + 1) ds vs h.2 (fun j x hx => by rw [← hu (j + 1) x (by simpa using hx)]; congr 1; omega) t

def fnParts : D → Option (Nat × List D × List D)
  | .dat (.fn f a b) => some (f, a.map .dat, b.map .dat)
  | .fn f a b => some (f, a, b)
  | _ => none

theorem fnParts_ok {M : Mem} {fv : D} {f : Nat} {a b : List D} (h : fnParts fv = some (f, a, b)) {v : Value} (hv : VD M fv v) : ∃ x y : Array Value, v = .func (.func f) x y ∧ VDl M a x.toList ∧ VDl M b y.toList := by
  unfold fnParts at h
  split at h
  · simp only [Option.some.injEq, Prod.mk.injEq] at h
    obtain ⟨rfl, rfl, rfl⟩ := h
    simp only [VD, V] at hv
    obtain ⟨x, y, h1, h2, h3⟩ := hv
    exact ⟨x, y, h1, (VDl_dat M _ _).2 h2, (VDl_dat M _ _).2 h3⟩
  · simp only [Option.some.injEq, Prod.mk.injEq] at h
    obtain ⟨rfl, rfl, rfl⟩ := h
    simp only [VD] at hv
    exact hv
  · simp at h

theorem VDl_mono {M M' : Mem} (h : M.le M') {ds : List D} {vs : List Value} (hv : VDl M ds vs) : VDl M' ds vs := VDl.mono h ds vs hv

section
variable {C : Ctx} {c : Cfg} {ℓ nt n1 : Nat} {M : Mem} {g : OwnF} {w : World} {st : St} {tm : Array Value} {df : List Deferred}

def resS (tm : Array Value) : ResultVar → Sem Value
  | .tmp t => pure (tm.getD t undef)
  | .cell a t => do loadVar t (← asAddr (tm.getD a undef))

theorem resD_ok (hc : CfgOk C.P c) (hrs : RS C M g w) (hget : ∀ r b, st.get r = some b → g r = some b) (htm : ∀ t, VD M (tmGet st.tm t) (tm.getD t undef)) {rv : ResultVar} {d : D} (h : resD st (compRV c rv) = some d) :
    ∃ v, (resS tm rv).run C.P w = .ok v w ∧ VD M d v := by
  cases rv with
  | tmp t => simp only [compRV, resD, Option.some.injEq] at h; subst h; exact ⟨_, rfl, htm t⟩
  | cell a t =>
    simp only [compRV, resD] at h
    have hx := htm a
    obtain ⟨v, h1, h2⟩ := load_ok hc hrs hget hx h
    refine ⟨v, ?_, h2⟩
    rw [← h1]
    have hp : ∃ b o, tm.getD a undef = .pointer (some ⟨b, o, none⟩) := by
      generalize tmGet st.tm a = dv at hx h
      unfold loadD at h
      split at h
      · simp only [VD, V] at hx; obtain ⟨b, o, e, _⟩ := hx; exact ⟨b, _, e⟩
      · simp only [VD] at hx; obtain ⟨p, _, e⟩ := hx; exact ⟨_, _, e⟩
      · simp at h
    obtain ⟨b, o, e⟩ := hp
    simp only [resS, e, Instr.loadAt, Instr.sureAddr, asAddr]

theorem resL_ok (hc : CfgOk C.P c) (hrs : RS C M g w) (hget : ∀ r b, st.get r = some b → g r = some b) (htm : ∀ t, VD M (tmGet st.tm t) (tm.getD t undef)) : ∀ (l : List ResultVar) (ds : List D), resL st (l.map (compRV c)) = some ds →
    ∃ vs, (l.mapM (resS tm)).run C.P w = .ok vs w ∧ VDl M ds vs
  | [], ds, h => by simp [resL] at h; subst h; exact ⟨[], rfl, by simp [VDl]⟩
  | rv :: l, ds, h => by
    simp only [List.map_cons, resL] at h
    split at h
    · rename_i d ds' h1 h2
      simp only [Option.some.injEq] at h; subst h
      obtain ⟨v, h3, h4⟩ := resD_ok hc hrs hget htm h1
      obtain ⟨vs, h5, h6⟩ := resL_ok hc hrs hget htm l ds' h2
      exact ⟨v :: vs, by simp only [List.mapM_cons, Sem.run_bind, h3, h5, Result.andThen_ok, Sem.run_pure], by simp only [VDl]; exact ⟨h4, h6⟩⟩
    · simp at h

theorem results_ok (hc : CfgOk C.P c) (hrs : RS C M g w) (hget : ∀ r b, st.get r = some b → g r = some b) (htm : ∀ t, VD M (tmGet st.tm t) (tm.getD t undef)) {fn : Func} {ds : List D} (h : resL st (fn.results.toList.map (compRV c)) = some ds) :
    ∃ v, (results fn tm).run C.P w = .ok v w ∧ VD M (resV ds) v := by
  obtain ⟨vs, h1, h2⟩ := resL_ok hc hrs hget htm _ _ h
  have hr : (results fn tm).run C.P w = .ok (if h : vs.toArray.size = 1 then vs.toArray[0] else .tuple vs.toArray) w := by
    have e : results fn tm = (fn.results.mapM (resS tm) >>= fun vs => pure (if h : vs.size = 1 then vs[0] else .tuple vs)) := by
      unfold results
      congr 2
    rw [e, Array.mapM_eq_mapM_toList, map_eq_pure_bind]
    simp only [Sem.run_bind, h1, Result.andThen_ok, Sem.run_pure]
  refine ⟨_, hr, ?_⟩
  match ds, vs, h2 with
  | [], [], _ => simp only [resV, mkTup, dats]; simp [VD, V, Vl]
  | [d], [v], h2 => simp only [VDl] at h2; simpa [resV] using h2.1
  | d :: d2 :: ds, v :: v2 :: vs, h2 => 
    simp only [resV]
    have : (v :: v2 :: vs).toArray.size ≠ 1 := by simp
    rw [dif_neg this]
    exact mkTup_ok h2
  | [], _ :: _, h => simp [VDl] at h
  | _ :: _, [], h => simp [VDl] at h
  | [_], _ :: _ :: _, h => simp [VDl] at h
  | _ :: _ :: _, [_], h => simp [VDl] at h

/-- The marks of loops are taken off, one by one. -/
theorem unmark : ∀ (df : List Deferred) (g : OwnF) (w : World), RS C M g w → DR C n1 M g st [] df → ∀ (fr : Frame) (cs : List Frame), fr.mode ≠ .run → fr.defers = df →
    ∃ g' w', Steps C.P (lone fr cs w) (lone { fr with defers := [] } cs w') ∧ RS C M g' w' ∧ (∀ q, g' q ≠ none → g q ≠ none) ∧ ∀ q x, g q = some x → (∀ b, q = .obj b → n1 ≤ b → st.own.has q ∨ st.out q ≠ none) → g' q = some x
  | [], g, w, hrs, _, fr, cs, _, hd => ⟨g, w, by rw [show ({ fr with defers := [] } : Frame) = fr by cases fr; simp only at hd; subst hd; rfl]; exact .refl _ _, hrs, fun _ h => h, fun _ _ h _ => h⟩
  | d :: ds, g, w, hrs, hdr, fr, cs, hmode, hd => by
    generalize he : ([] : List (D × List D)) = l0 at hdr
    generalize he2 : d :: ds = dd at hdr
    cases hdr with
    | nil => simp at he2
    | real => simp at he
    | @mark b l ds' h0 h1 h2 h3 h4 hrest =>
      simp only [List.cons.injEq] at he2
      obtain ⟨rfl, rfl⟩ := he2
      obtain ⟨b', e, hh, _, hown⟩ := hrs.blk _ _ h1
      cases e
      have hstep := step_collected (P := C.P) (fr := fr) (cs := cs) (w := w) (ds := ds) (calls := []) hmode hd rfl (run_takeDeferred hh)
      have hrs' := turn_obj (b := .obj (.deferred none)) (o' := .deferred none) hrs h1 (fun l e => by cases e) hh rfl hown ⟨b, rfl, by rw [heap_set, if_pos rfl, if_pos (Array.getElem?_eq_some_iff.1 hh).1], rfl, hown⟩
      have hrest' : DR C n1 M (gset g (.obj b) (.obj (.deferred none))) st [] ds := by
        subst he
        have key : ∀ (l : List (D × List D)) (ds : List Deferred), DR C n1 M g st l ds → (∀ d ∈ ds, d.target ≠ .collected b) → DR C n1 M (gset g (.obj b) (.obj (.deferred none))) st l ds := by
          intro l ds hx
          induction hx with
          | nil => intro _; exact .nil
          | @mark b2 l ds q0 q1 q2 q3 q4 _ ih =>
            intro hne
            have : b2 ≠ b := fun e => hne ⟨.collected b2, #[]⟩ (by simp) (by simp [e])
            exact .mark q0 (by rw [gset_other _ _ (by intro e; cases e; exact this rfl)]; exact q1) q2 q3 q4 (ih fun d hd => hne d (by simp [hd]))
          | real q1 q2 q3 q4 _ ih => intro hne; exact .real q1 q2 q3 q4 (ih fun d hd => hne d (by simp [hd]))
        exact key _ _ hrest h4
      obtain ⟨g', w', s1, s2, s3, s4⟩ := unmark ds _ _ hrs' hrest' { fr with defers := [] ++ ds } cs hmode rfl
      refine ⟨g', w', .head hstep s1, s2, fun q hq => ?_, fun q x hq hk => ?_⟩
      · by_cases e : q = .obj b
        · subst e; rw [h1]; simp
        · have := s3 q hq; rw [gset_other _ _ e] at this; exact this
      · by_cases e : q = .obj b
        · subst e
          rcases hk b rfl h0 with h | h
          · exact (h2 h).elim
          · exact (h h3).elim
        · exact s4 q x (by rw [gset_other _ _ e]; exact hq) hk

theorem obj_lt (hrs : RS C M g w) {b : Nat} {x : Blk} (h : g (.obj b) = some x) : b < w.heap.size := by
  have hb := hrs.blk _ _ h
  have np : ∀ p, M.place (.obj b) = some p → False := by
    intro p hp; obtain ⟨l, s, i, e⟩ := hrs.plv _ _ hp; cases e
  cases x with
  | cells cs => obtain ⟨p, hp, _⟩ := hb; exact (np p hp).elim
  | arr k g cs => obtain ⟨p, hp, _⟩ := hb; exact (np p hp).elim
  | tok k => obtain ⟨p, hp, _⟩ := hb; exact (np p hp).elim
  | map es => obtain ⟨p, hp, _⟩ := hb; exact (np p hp).elim
  | mapl es q s => obtain ⟨p, hp, _⟩ := hb; exact (np p hp).elim
  | ctr n => obtain ⟨l, e, _⟩ := hb; cases e
  | obj o => obtain ⟨b', e, h1, _⟩ := hb; cases e; exact (Array.getElem?_eq_some_iff.1 h1).1
  | loop o tm => obtain ⟨b', e, h1, _⟩ := hb; cases e; exact (Array.getElem?_eq_some_iff.1 h1).1

/-- One frame more. -/
theorem RS.level (h : RS C M g w) : M.le { M with nf := M.nf + 1, hs := w.heap.size } ∧ RS C { M with nf := M.nf + 1, hs := w.heap.size } (gset g (.ctr M.nf) (.ctr 0)) w := by
  have hle : M.le { M with nf := M.nf + 1, hs := w.heap.size } := ⟨fun _ _ _ h => h, fun _ _ h => h, Nat.le_succ _, h.n0.2⟩
  refine ⟨hle, h.known, h.own, fun r x hx => ?_, fun l hl => ⟨?_, (h.nf l (by simp at hl; omega)).2⟩, fun r x hx hv => ?_, h.plv, fun n => V.mono hle _ _ (h.glob n), h.low, ⟨h.n0.1, Nat.le_refl _⟩⟩
  · by_cases e : r = .ctr M.nf
    · subst e
      simp only [gset_same, Option.some.injEq] at hx; subst hx
      exact ⟨M.nf, rfl, fun s i _ => (h.nf M.nf (Nat.le_refl _)).2 s i⟩
    · rw [gset_other _ _ e] at hx
      exact RB.keep hle (fun _ _ h => h) (Keeps.refl M r w) (fun _ _ _ h => h) x (h.blk r x hx)
  · simp at hl
    rw [gset_other _ _ (by intro e; cases e; omega)]
    exact (h.nf l (by omega)).1
  · obtain ⟨l, s, i, rfl⟩ := hv
    rw [gset_other _ _ (by simp)] at hx
    exact h.plc _ x hx ⟨l, s, i, rfl⟩

/-- A function of the program, called. -/
theorem callF (hc : CfgOk C.P c) {f : Nat} {fn : Func} (hf : C.P.funcs[f]? = some fn) (hname : (fn.name == "runtime.NumGoroutine") = false) {body : Code} (hbody : fn.body = some body) (hs : Sound C c fn.ntmps body) {ir : IR} (hcomp : comp c body = some ir.strip) (hfit : ir.fits fn.ntmps = true)
    {fv : D} {first caps args : List D} (hfv : fnParts fv = some (f, first, caps)) (hlen : (first ++ args ++ caps).length ≤ fn.ntmps) {S : OwnF} {Q : Res → OwnF → Prop}
    (hwp : ∀ ℓ, (∀ s i, S (.v ℓ s i) = none) → S (.ctr ℓ) = none → wp C ℓ ir ⟨argSlots 0 (first ++ args ++ caps), [], S, 0, []⟩ (fnK (fn.results.toList.map (compRV c)) Q)) : CallV C fv args S Q := by
  intro M g w v vs hrs hS hv hargs
  obtain ⟨x, y, rfl, hx, hy⟩ := fnParts_ok hfv hv
  have hrun : (do let d ← Deferred.ofValue (.func (.func f) x y) vs.toArray; invoke d.target d.args : Sem Next).run C.P w = .ok (.enter f ((x ++ vs.toArray) ++ y)) w := by
    simp only [Deferred.ofValue, Sem.run_bind, Sem.run_pure, Result.andThen_ok, invoke, callFunc, run_program, hf]
    simp [hname, hbody]
  refine ⟨_, w, hrun, fun c0 cs => ?_⟩
  obtain ⟨hle1, hrs1⟩ := hrs.level
  have hgc : g (.ctr M.nf) = none := (hrs.nf M.nf (Nat.le_refl _)).1
  have hSv : ∀ s i, S (.v M.nf s i) = none := by
    intro s i
    cases e : S (.v M.nf s i) with
    | none => rfl
    | some b => exact (hrs.plc _ _ (hS _ _ e) ⟨_, _, _, rfl⟩ ((hrs.nf M.nf (Nat.le_refl _)).2 s i)).elim
  have hSc : S (.ctr M.nf) = none := by
    cases e : S (.ctr M.nf) with
    | none => rfl
    | some b => rw [hS _ _ e] at hgc; simp at hgc
  have hall : VDl M (first ++ args ++ caps) (x.toList ++ vs ++ y.toList) := VDl_append (VDl_append hx hargs) hy
  have hsz : (first ++ args ++ caps).length = ((x ++ vs.toArray) ++ y).size := by
    have := (VDl_get hall).1; simp at this ⊢; omega
  generalize hA : (x ++ vs.toArray) ++ y = A at hsz
  have hAl : A.toList = x.toList ++ vs ++ y.toList := by rw [← hA]; simp
  have hgo : ∀ q b, g q = some b → gset g (.ctr M.nf) (.ctr 0) q = some b := by
    intro q b h
    rw [gset_other _ _ (by intro e; subst e; rw [hgc] at h; simp at h)]; exact h
  -- the frame
  have hfr : FR C M.nf fn.ntmps w.heap.size { M with nf := M.nf + 1, hs := w.heap.size } (gset g (.ctr M.nf) (.ctr 0)) w ⟨argSlots 0 (first ++ args ++ caps), [], S, 0, []⟩ (A ++ Array.replicate (fn.ntmps - A.size) undef) [] := by
    refine ⟨hrs1, ⟨fun r b h => by simp [ownGet] at h, fun r b h => hgo _ _ (hS r b h), fun r h => by simp [Own.has, ownGet] at h, by simp, ⟨by simp [Own.has, ownGet], hSc⟩⟩, ?_, ?_, .nil, Nat.le_refl _⟩
    · simp only [Array.size_append, Array.size_replicate]; omega
    · refine argSlots_ok (fun t => (A ++ Array.replicate (fn.ntmps - A.size) undef).getD t undef) 0 _ _ (VDl_mono hle1 hall) (fun j v hj => ?_)
      rw [← hAl, Array.getElem?_toList] at hj
      have hlt : j < A.size := (Array.getElem?_eq_some_iff.1 hj).1
      simp only [Nat.zero_add]
      rw [Array.getD_eq_getD_getElem?, Array.getElem?_append_left hlt, hj]; rfl
  have hent : Frame.enter C.P f A .normal = fon (Frame.enter C.P f A .normal) (A ++ Array.replicate (fn.ntmps - A.size) undef) [] [.code body] := by
    simp [Frame.enter, fon, hf, hbody]
  have hends := hs ir hcomp hfit M.nf w.heap.size (Frame.enter C.P f A .normal) (c0 :: cs) [] _ _ w _ _ _ _ (.inl rfl) ⟨fn, hf⟩ hfr (hwp M.nf hSv hSc)
  rw [← hent] at hends
  obtain ⟨e, st', M', g', tm', df', w', hq, hfr', hle', hmv', harr⟩ := hends
  -- what a call has done
  have went : ∀ (S' : OwnF) (g2 : OwnF) (w2 : World), S'.sub st' → RS C M' g2 w2 → (∀ q, g2 q ≠ none → g' q ≠ none) → (∀ q x, g' q = some x → (∀ b, q = .obj b → w.heap.size ≤ b → st'.own.has q ∨ st'.out q ≠ none) → g2 q = some x) → Went C M M' g g2 w2 S S' := by
    intro S' g2 w2 hsub hrs2 hk1 hk2
    refine ⟨hle1.trans hle', hrs2, fun q b hq => ?_, fun q b hq hSq => ?_, fun q hq => ?_⟩
    · have hin : st'.own.has q ∨ st'.out q ≠ none := by
        rcases hsub q b hq with h | h
        · exact .inl (has_of h)
        · exact .inr (by rw [h]; simp)
      refine hk2 q b ?_ (fun _ _ _ => hin)
      rcases hsub q b hq with h | h
      · exact hfr'.sr.own q b h
      · exact hfr'.sr.out q b h
    · refine hk2 q b (hmv'.frame q b (hgo q b hq) (by simp [Own.has, ownGet]) hSq (by intro e; subst e; rw [hgc] at hq; simp at hq)) (fun b' e hb => ?_)
      subst e
      have := obj_lt hrs hq
      omega
    · cases e : S' q with
      | none => exact (hq e).elim
      | some b =>
        have hin : st'.own.has q ∨ st'.out q ≠ none := by
          rcases hsub q b e with h | h
          · exact .inl (has_of h)
          · exact .inr (by rw [h]; simp)
        rcases hmv'.keys q hin with (h | h) | h
        · simp [Own.has, ownGet] at h
        · exact .inl h
        · right
          cases e2 : g q with
          | none => rfl
          | some b2 => rw [hgo q b2 e2] at h; simp at h
  have ret : ∀ k', Steps C.P (lone (Frame.enter C.P f A .normal) (c0 :: cs) w) (lone (fon (Frame.enter C.P f A .normal) tm' df' k') (c0 :: cs) w') → (k' = [] ∨ ∃ r, k' = .code .ret :: r) → fnK (fn.results.toList.map (compRV c)) Q .ret st' →
      Goes C.P c0 cs (fun mr w' => ∃ M' g' r S', Went C M M' g g' w' S S' ∧ RRel M' r mr ∧ Q r S') (.enter f A) w := by
    intro k' hsteps hk' ⟨hdf, ds, d', S', h1, h2, h3, h4⟩
    have hdr := hfr'.df
    rw [hdf] at hdr
    have hstep1 : step C.P (lone (fon (Frame.enter C.P f A .normal) tm' df' k') (c0 :: cs) w') = .next (lone { fon (Frame.enter C.P f A .normal) tm' df' k' with mode := .returning } (c0 :: cs) w') := by
      rcases hk' with rfl | ⟨r, rfl⟩
      · exact step_lone_go (by simp [stepG, stepG.exec, fon, Frame.enter])
      · exact step_lone_go (by simp [stepG, stepG.exec, fon, Frame.enter])
    obtain ⟨g2, w2, s1, s2, s3, s4⟩ := unmark df' g' w' hfr'.rs hdr { fon (Frame.enter C.P f A .normal) tm' df' k' with mode := .returning } (c0 :: cs) (by simp) rfl
    obtain ⟨v, hv1, hv2⟩ := results_ok hc s2 (fun r b hr => by
      have hin : st'.own.has r ∨ st'.out r ≠ none := by
        unfold St.get at hr
        split at hr
        · rename_i b' e; exact .inl (has_of e)
        · exact .inr (by rw [hr]; simp)
      exact s4 r b (hfr'.sr.get r b hr) (fun _ _ _ => hin)) hfr'.tm h1
    refine ⟨.ret v, w2, ⟨M', g2, .ret d', S', went S' g2 w2 h3 s2 s3 s4, h2 _ _ hv2, h4⟩, ?_⟩
    refine hsteps.trans (.head hstep1 (s1.trans (.one ?_)))
    exact step_leave_returned ⟨rfl, rfl, rfl, fn, hf, hv1⟩
  cases e with
  | exit id => exact hq.elim
  | normal => exact ret [] harr (.inl rfl) hq
  | ret => obtain ⟨k', hk'⟩ := harr; exact ret _ hk' (.inr ⟨k', rfl⟩) hq
  | pan d =>
    obtain ⟨hdf, S', h3, h4⟩ := hq
    obtain ⟨v, k', hv, hst⟩ := harr
    have hdr := hfr'.df
    rw [hdf] at hdr
    obtain ⟨g2, w2, s1, s2, s3, s4⟩ := unmark df' g' w' hfr'.rs hdr { fon (Frame.enter C.P f A .normal) tm' df' k' with mode := .panicking [{ v, recovered := false }] } (c0 :: cs) (by simp) rfl
    refine ⟨.pan [{ v, recovered := false }], w2, ⟨M', g2, .pan d, S', went S' g2 w2 h3 s2 s3 s4, ⟨v, rfl, hv⟩, h4⟩, ?_⟩
    refine hst.trans (s1.trans (.one ?_))
    exact step_leave_panicked ⟨rfl, rfl, fn, hf⟩

end
end Go.Abs

/- The abstract layer, part 34: ranges over functions. No conditions. -/
namespace Go.Abs
open Go.RowKit

section
variable {P : Program} {b : Frame} {tm : Array Value} {df : List Deferred} {k : List Item} {cs : List Frame} {w : World}

def yieldV (l : Nat) : Value := .func (.yield l) #[] #[]
def callS (f : Value) (vs : List Value) : Sem Next := do let d ← Deferred.ofValue f vs.toArray; invoke d.target d.args

theorem resolve_range {ρ : Operand → Value} {f : Operand} {l : Nat} (hρ : ∀ v, ρ (.const v) = v) :
    (do let d ← resolve ρ { callee := .value f, args := #[.const (.func (.yield l) #[] #[])], argTypes := #[] } 0; invoke d.target d.args : Sem Next) = callS (ρ f) [yieldV l] := by
  simp only [resolve, callS, yieldV]
  simp [hρ]

theorem mv_range {f : Operand} {ps : Array Tmp} {x y : Code} {nx : Next} {w1 w2 : World} {l : Nat} {mark : List Deferred} (he : (Instr.enterLoop b.fn tm ps x y b.roundOf).run P w = .ok (l, mark) w1)
    (hrun : (callS ((fon b tm df []).eval f) [yieldV l]).run P w1 = .ok nx w2) :
    (stepG P true { frame := fon b tm df (.code (.rangeFunc f ps x y) :: k), callers := cs, status := .running, dying := none } w).bare =
      (stepG.apply P true (fon b tm (mark ++ df) (.inRangeFunc l :: k)) cs none (callS ((fon b tm df []).eval f) [yieldV l]) w1).bare := by
  have h1 : (do let d ← resolve (fon b tm (mark ++ df) (.inRangeFunc l :: k)).eval { callee := .value f, args := #[.const (.func (.yield l) #[] #[])], argTypes := #[] } 0; invoke d.target d.args : Sem Next) = callS ((fon b tm df []).eval f) [yieldV l] := by
    rw [resolve_range (fun v => rfl)]
    congr 1
  rw [← h1]
  simp only [fon] at *
  simp [stepG, stepG.exec, Sem.runT_eq, he, GStep.bare_after]

theorem range_value {f : Operand} {ps : Array Tmp} {x y : Code} {v : Value} {w1 w2 : World} {l : Nat} {mark : List Deferred} (he : (Instr.enterLoop b.fn tm ps x y b.roundOf).run P w = .ok (l, mark) w1)
    (hrun : (callS ((fon b tm df []).eval f) [yieldV l]).run P w1 = .ok (.value v) w2) :
    step P (lone (fon b tm df (.code (.rangeFunc f ps x y) :: k)) cs w) = .next (lone ((fon b tm (mark ++ df) (.inRangeFunc l :: k)).finish v) cs w2) :=
  step_lone_go (by rw [mv_range he hrun]; simp [stepG.apply, hrun, Sem.runT_eq, GStep.bare_after])
theorem range_enter {f : Operand} {ps : Array Tmp} {x y : Code} {q : FuncId} {args : Array Value} {w1 w2 : World} {l : Nat} {mark : List Deferred} (he : (Instr.enterLoop b.fn tm ps x y b.roundOf).run P w = .ok (l, mark) w1)
    (hrun : (callS ((fon b tm df []).eval f) [yieldV l]).run P w1 = .ok (.enter q args) w2) :
    step P (lone (fon b tm df (.code (.rangeFunc f ps x y) :: k)) cs w) = .next (lone (Frame.enter P q args .normal) (fon b tm (mark ++ df) (.inRangeFunc l :: k) :: cs) w2) :=
  step_lone_go (by rw [mv_range he hrun]; simp [stepG.apply, hrun, Sem.runT_eq, GStep.bare_after])
theorem range_round {f : Operand} {ps : Array Tmp} {x y : Code} {q : FuncId} {l2 : Nat} {tmps : Array Value} {x2 y2 : Code} {w1 w2 : World} {l : Nat} {mark : List Deferred} (he : (Instr.enterLoop b.fn tm ps x y b.roundOf).run P w = .ok (l, mark) w1)
    (hrun : (callS ((fon b tm df []).eval f) [yieldV l]).run P w1 = .ok (.round l2 q tmps x2 y2) w2) :
    step P (lone (fon b tm df (.code (.rangeFunc f ps x y) :: k)) cs w) = .next (lone (Frame.round l2 q tmps x2 y2 .normal) (fon b tm (mark ++ df) (.inRangeFunc l :: k) :: cs) w2) :=
  step_lone_go (by rw [mv_range he hrun]; simp [stepG.apply, hrun, Sem.runT_eq, GStep.bare_after])

theorem finish_inRange {l : Nat} (v : Value) : (fon b tm df (.inRangeFunc l :: k)).finish v = fon b tm df (.endRangeFunc l :: k) := by simp [Frame.finish, fon]
theorem mv_endRange {l : Nat} {jump : Option Code} {w' : World} (h : (Instr.endLoop l).run P w = .ok jump w') :
    step P (lone (fon b tm df (.endRangeFunc l :: k)) cs w) = .next (lone (fon b tm df ((jump.map Item.code).toList ++ k)) cs w') :=
  step_lone_go (by simp [stepG, stepG.exec, fon, Sem.runT_eq, h, GStep.bare_after])
theorem mv_beginRound {l : Nat} {w' : World} (hr : b.roundOf = some l) (h : (Instr.beginRound l).run P w = .ok () w') :
    step P (lone (fon b tm df (.beginRound :: k)) cs w) = .next (lone (fon b tm df k) cs w') :=
  step_lone_go (by simp [stepG, stepG.exec, fon, hr, stepG.apply, Sem.runT_eq, Sem.run_bind, h, Result.andThen, GStep.bare_after, Frame.finish])
/-- A round is left. -/
theorem mv_leave {l : Nat} {jump : Option Code} {v : Value} {w' : World} {c : Frame} (hr : b.roundOf = some l) (hk : b.kind = .normal) (hj : (jump = none ∧ k = []) ∨ (jump = some .ret ∧ ∃ r, k = .code .ret :: r) ∨ ∃ id r, jump = some (.exit id) ∧ k = .code (.exit id) :: r ∧ exitTo id r = none)
    (h : (Instr.endRound l jump).run P w = .ok v w') : step P (lone (fon b tm df k) (c :: cs) w) = .next (lone (c.finish v) cs w') := by
  rcases hj with ⟨rfl, rfl⟩ | ⟨rfl, r, rfl⟩ | ⟨id, r, rfl, rfl, hx⟩
  · exact step_lone_go (by simp [stepG, stepG.exec, fon, hr, Sem.runT_eq, h, GStep.bare_after, doReturn, hk])
  · exact step_lone_go (by simp [stepG, stepG.exec, fon, hr, Sem.runT_eq, h, GStep.bare_after, doReturn, hk])
  · exact step_lone_go (by simp [stepG, stepG.exec, fon, hr, Sem.runT_eq, h, GStep.bare_after, doReturn, hk, hx])
end

/-! ### One round -/

/-- What a frame hands to its rounds: what it knows, its counter, the record. -/
def frS (ℓ L : Nat) (st : St) (x : Blk) : OwnF := fun r => if r = .ctr ℓ then some (.ctr st.next) else if r = .obj L then some x else st.get r

structure NoK (ℓ L : Nat) (st : St) : Prop where
  ctr : ¬ st.own.has (.ctr ℓ) ∧ st.out (.ctr ℓ) = none
  obj : ¬ st.own.has (.obj L) ∧ st.out (.obj L) = none
  apart : ∀ r, st.own.has r → st.out r = none

theorem get_none {st : St} {r : Ref} (h : st.get r = none) : ¬ st.own.has r ∧ st.out r = none := by
  unfold St.get at h
  split at h
  · simp at h
  · rename_i e; exact ⟨by unfold Own.has; rw [e]; simp, h⟩
theorem get_of_own {st : St} {r : Ref} {b : Blk} (h : ownGet st.own r = some b) : st.get r = some b := by unfold St.get; rw [h]
theorem get_of_out {st : St} {r : Ref} (h : ¬ st.own.has r) : st.get r = st.out r := by
  unfold St.get
  split
  · rename_i e; exact (h (has_of e)).elim
  · rfl
theorem get_ne_none {st : St} {r : Ref} (h : st.own.has r ∨ st.out r ≠ none) : st.get r ≠ none := by
  intro e
  obtain ⟨h1, h2⟩ := get_none e
  rcases h with h | h
  · exact h1 h
  · exact h h2
theorem knows_of {st : St} {r : Ref} (h : st.get r ≠ none) : st.own.has r ∨ st.out r ≠ none := by
  rcases Classical.em (st.own.has r) with h1 | h1
  · exact .inl h1
  · rw [get_of_out h1] at h; exact .inr h

section
variable {C : Ctx} {c : Cfg} {ℓ nt n1 : Nat} {M : Mem} {g : OwnF} {w : World} {L : Nat}

theorem frS_obj {st : St} {x : Blk} : frS ℓ L st x (.obj L) = some x := by simp [frS]
theorem frS_ctr {st : St} {x : Blk} : frS ℓ L st x (.ctr ℓ) = some (.ctr st.next) := by simp [frS]
theorem frS_other {st : St} {x : Blk} {r : Ref} (h1 : r ≠ .ctr ℓ) (h2 : r ≠ .obj L) : frS ℓ L st x r = st.get r := by simp [frS, h1, h2]

theorem SR_of {st : St} {x : Blk} (h : (frS ℓ L st x).within g) (hn : NoK ℓ L st) (tm : List (Nat × D)) (df : List (D × List D)) : SR g ℓ { st with tm := tm, df := df } := by
  have hne : ∀ r, st.get r ≠ none → r ≠ .ctr ℓ ∧ r ≠ .obj L := by
    intro r hr
    have hk := knows_of hr
    constructor
    · intro e; subst e
      rcases hk with hk | hk
      · exact hn.ctr.1 hk
      · exact hk hn.ctr.2
    · intro e; subst e
      rcases hk with hk | hk
      · exact hn.obj.1 hk
      · exact hk hn.obj.2
  have hg : ∀ r b, st.get r = some b → g r = some b := by
    intro r b hr
    obtain ⟨h1, h2⟩ := hne r (by rw [hr]; simp)
    exact h r b (by rw [frS_other h1 h2]; exact hr)
  refine ⟨fun r b hr => hg r b (get_of_own hr), fun r b hr => hg r b ?_, hn.apart, h _ _ frS_ctr, hn.ctr⟩
  rw [get_of_out (fun e => by have := hn.apart r e; rw [this] at hr; simp at hr)]
  exact hr

theorem DR.turn {st : St} {o : Loop} {tl : List (Nat × D)} {x : Blk} (hg : g (.obj L) = some (.loop o tl)) {l : List (D × List D)} {ds : List Deferred} (h : DR C n1 M g st l ds) : DR C n1 M (gset g (.obj L) x) st l ds := by
  induction h with
  | nil => exact .nil
  | @mark b l ds h0 h1 h2 h3 h4 _ ih =>
    refine .mark h0 ?_ h2 h3 h4 ih
    rw [gset_other _ _ (by intro e; cases e; rw [hg] at h1; simp at h1)]; exact h1
  | real h1 h2 h3 h4 _ ih => exact .real h1 h2 h3 h4 ih

theorem RS.hs (h : RS C M g w) : M.le { M with hs := w.heap.size } ∧ RS C { M with hs := w.heap.size } g w := by
  have hle : M.le { M with hs := w.heap.size } := ⟨fun _ _ _ h => h, fun _ _ h => h, Nat.le_refl _, h.n0.2⟩
  exact ⟨hle, h.known, h.own, fun r x hx => RB.keep hle (fun _ _ h => h) (Keeps.refl M r w) (fun _ _ _ h => h) x (h.blk r x hx), h.nf, h.plc, h.plv, fun n => V.mono hle _ _ (h.glob n), h.low, ⟨h.n0.1, Nat.le_refl _⟩⟩

theorem setPs_ok {M : Mem} : ∀ (ps : List Nat) (xs : List D) (vs : List Value) (tm : List (Nat × D)) (T : Array Value), VDl M xs vs → xs.length = ps.length → (∀ p ∈ ps, p < T.size) → (∀ t, VD M (tmGet tm t) (T.getD t undef)) →
    ((ps.zip vs).foldl (fun tmps (p : Nat × Value) => tmps.setIfInBounds p.1 p.2) T).size = T.size ∧ ∀ t, VD M (tmGet (setPs tm ps xs) t) (((ps.zip vs).foldl (fun tmps (p : Nat × Value) => tmps.setIfInBounds p.1 p.2) T).getD t undef)
  | [], [], vs, tm, T, _, _, _, h => ⟨by simp, by simpa [setPs] using h⟩
  | [], _ :: _, _, _, _, _, h, _, _ => by simp at h
  | _ :: _, [], _, _, _, _, h, _, _ => by simp at h
  | p :: ps, x :: xs, [], _, _, h, _, _, _ => by simp [VDl] at h
  | p :: ps, x :: xs, v :: vs, tm, T, h, hl, hp, htm => by
    simp only [VDl] at h
    simp only [List.zip_cons_cons, List.foldl_cons, setPs]
    have ih := setPs_ok ps xs vs ((p, x) :: tm) (T.setIfInBounds p v) h.2 (by simpa using hl) (fun q hq => by simp; exact hp q (by simp [hq])) (fun t => by
      rw [tmGet_set]
      have hlt := hp p (by simp)
      by_cases e : t = p
      · subst e; rw [if_pos rfl]
        have : (T.setIfInBounds t v).getD t undef = v := by simp [Array.getD, hlt]
        rw [this]; exact h.1
      · rw [if_neg e]
        have : (T.setIfInBounds p v).getD t undef = T.getD t undef := by rw [Array.getD_eq_getD_getElem?, Array.getD_eq_getD_getElem?, Array.getElem?_setIfInBounds_ne (Ne.symm e)]
        rw [this]; exact htm t)
    exact ⟨by rw [ih.1]; simp, ih.2⟩

/-- What a round leaves behind. -/
def roundQ (ℓ L : Nat) (o : Loop) (tm0 : List (Nat × D)) (Qb : Ex → St → Prop) (r : Res) (S' : OwnF) : Prop :=
  ∃ e st3, NoK ℓ L st3 ∧ Qb e st3 ∧ ((e = .normal ∧ r = .ret (.dat (.bool true)) ∧ S' = frS ℓ L st3 (.loop o tm0)) ∨
    (e = .ret ∧ r = .ret (.dat (.bool false)) ∧ S' = frS ℓ L st3 (.loop { o with state := .done, pending := some .ret } tm0)) ∨
    (∃ id, e = .exit id ∧ r = .ret (.dat (.bool false)) ∧ S' = frS ℓ L st3 (.loop { o with state := .done, pending := some (.exit id) } tm0)) ∨
    ∃ d o', e = .pan d ∧ r = .pan d ∧ S' = frS ℓ L st3 (.loop o' tm0))

theorem round_ok {x y : Code} {i1 i2 : IR} (hx : Sound C c nt x) (hy : Sound C c nt y) (hcx : comp c x = some i1.strip) (hcy : comp c y = some i2.strip) (hf1 : i1.fits nt = true) (hf2 : i2.fits nt = true) (hn1 : i1.nodefer = true) (hn2 : i2.nodefer = true)
    {o : Loop} (ho : o.state = .ready) (hop : o.pending = none) {ps : List Nat} (hps : o.params.toList = ps) (hass : o.assign = x) (hbody : o.body = y) (hfn : ∃ fn, C.P.funcs[o.fn]? = some fn) (hsz : o.tmps.size = nt) (hbnd : ∀ p ∈ ps, p < nt)
    {tm0 : List (Nat × D)} {xs : List D} {st2 : St} (hno : NoK ℓ L st2) (hlen : xs.length = ps.length) {Qb : Ex → St → Prop} (hpan : ∀ d st3, Qb (.pan d) st3 → st3.df = [])
    (hW : ∃ st1, Sh C ℓ { st2 with tm := setPs tm0 ps xs, df := [] } st1 ∧ wp C ℓ i1 st1 (fun e st2 => match e with | .normal => wp C ℓ i2 st2 Qb | _ => False)) :
    CallV C (.yld (.obj L)) xs (frS ℓ L st2 (.loop o tm0)) (roundQ ℓ L o tm0 Qb) := by
  intro M0 g w f vs hrs0 hS hv0 hargs0
  obtain ⟨hle0, hrs⟩ := hrs0.hs
  generalize hM : ({ M0 with hs := w.heap.size } : Mem) = M at hle0 hrs
  have hMhs : M.hs = w.heap.size := by rw [← hM]
  have hargs := VDl_mono hle0 hargs0
  simp only [VD, Ref.obj.injEq] at hv0
  obtain ⟨_, rfl, rfl⟩ := hv0
  have hgL : g (.obj L) = some (.loop o tm0) := hS _ _ frS_obj
  have hltL : L < w.heap.size := obj_lt hrs hgL
  obtain ⟨_, eb, hheap, hown, htm0⟩ := hrs.blk _ _ hgL
  cases eb
  have hvl : vs.length = xs.length := ((VDl_get hargs).1).symm
  have hpsz : o.params.size = ps.length := by rw [← hps]; simp
  have hrun : (callS (.func (.yield L) #[] #[]) vs).run C.P w = .ok (.round L o.fn ((o.params.zip vs.toArray).foldl (fun tmps (t, a) => tmps.setIfInBounds t a) o.tmps) o.assign o.body) w := by
    simp only [callS, Deferred.ofValue, Sem.run_bind, Sem.run_pure, Result.andThen_ok, invoke]
    rw [show (#[] ++ vs.toArray : Array Value) = vs.toArray by simp]
    exact run_yield hheap (by simp; omega)
  have hfold : (o.params.zip vs.toArray).foldl (fun tmps (t, a) => tmps.setIfInBounds t a) o.tmps = (ps.zip vs).foldl (fun tmps (p : Nat × Value) => tmps.setIfInBounds p.1 p.2) o.tmps := by
    rw [← Array.foldl_toList, Array.toList_zip, hps]
  obtain ⟨hTs, hTv⟩ := setPs_ok (M := M) ps xs vs tm0 o.tmps hargs hlen (fun p hp => by rw [hsz]; exact hbnd p hp) htm0
  rw [hfold] at hrun
  generalize (ps.zip vs).foldl (fun tmps (p : Nat × Value) => tmps.setIfInBounds p.1 p.2) o.tmps = T at hrun hTs hTv
  refine ⟨_, w, hrun, fun c0 cs => ?_⟩
  rw [hass, hbody]
  simp only [Goes]
  have hbr : Frame.round L o.fn T x y .normal = fon (Frame.round L o.fn T x y .normal) T [] [.code x, .beginRound, .code y] := rfl
  generalize hbR : Frame.round L o.fn T x y .normal = bR at hbr
  have hro : bR.roundOf = some L := by rw [← hbR]; rfl
  have hkind : bR.kind = .normal := by rw [← hbR]; rfl
  have hbf : ∃ fn, C.P.funcs[bR.fn]? = some fn := by rw [← hbR]; exact hfn
  have hfr0 : FR C ℓ nt M.hs M g w { st2 with tm := setPs tm0 ps xs, df := [] } T [] := ⟨hrs, SR_of hS hno _ _, by rw [hTs, hsz], hTv, .nil, Nat.le_refl _⟩
  obtain ⟨st1, ⟨hdf1, hsh⟩, hwx⟩ := hW
  obtain ⟨M1, g1, hle1, hrs1, hsr1, hm1, htm1⟩ := hsh M g w (fun t => T.getD t undef) hfr0.rs hfr0.sr hfr0.tm
  have hfr1 : FR C ℓ nt M.hs M1 g1 w st1 T [] := ⟨hrs1, hsr1, hfr0.sz, htm1, by rw [hdf1]; exact hfr0.df.move hle1 hm1, hle1.hs⟩
  obtain ⟨e, sB, M2, g2, tm2, df2, w2, hq2, hfr2, hle2, hmv2, harr2⟩ := Ends.after hle1 hm1 (hx i1 hcx hf1 ℓ M.hs bR (c0 :: cs) [.beginRound, .code y] M1 g1 w st1 T [] _ (.inr hn1) hbf hfr1 hwx)
  cases e with
  | exit => exact hq2.elim
  | ret => exact hq2.elim
  | pan => exact hq2.elim
  | normal =>
  have hs0 : ∀ q, frS ℓ L st2 (.loop o tm0) q = none → q ≠ .ctr ℓ ∧ q ≠ .obj L ∧ ¬ st2.own.has q ∧ st2.out q = none := by
    intro q hq
    have h1 : q ≠ .ctr ℓ := by intro e; subst e; rw [frS_ctr] at hq; simp at hq
    have h2 : q ≠ .obj L := by intro e; subst e; rw [frS_obj] at hq; simp at hq
    rw [frS_other h1 h2] at hq
    exact ⟨h1, h2, get_none hq⟩
  have hk2 : ∀ q, g q ≠ none → ¬ st2.own.has q → st2.out q = none → ¬ sB.own.has q ∧ sB.out q = none := by
    intro q hq h1 h2
    have : ¬ (sB.own.has q ∨ sB.out q ≠ none) := by
      intro h
      rcases hmv2.keys q h with (h3 | h3) | h3
      · exact h1 h3
      · exact h3 h2
      · exact hq h3
    exact ⟨fun h => this (.inl h), by
      cases e : sB.out q with
      | none => rfl
      | some x => exact (this (.inr (by rw [e]; simp))).elim⟩
  obtain ⟨hB1, hB2⟩ := hk2 (.obj L) (by rw [hgL]; simp) hno.obj.1 hno.obj.2
  have hg2L : g2 (.obj L) = some (.loop o tm0) := hmv2.frame _ _ hgL hno.obj.1 hno.obj.2 (by simp)
  obtain ⟨_, eb, hheap2, hown2, htm2⟩ := hfr2.rs.blk _ _ hg2L
  cases eb
  have hbeg := run_beginRound (P := C.P) hheap2 ho
  have hrs2' : RS C M2 (gset g2 (.obj L) (.loop { o with state := .busy } tm0)) (w2.putObj L (.loop { o with state := .busy })) :=
    turn_obj (o' := .loop { o with state := .busy }) hfr2.rs hg2L (fun l e => by cases e) hheap2 rfl hown2 ⟨L, rfl, by rw [heap_set, if_pos rfl, if_pos (Array.getElem?_eq_some_iff.1 hheap2).1], hown2, htm2⟩
  have hfr2' : FR C ℓ nt M.hs M2 (gset g2 (.obj L) (.loop { o with state := .busy } tm0)) (w2.putObj L (.loop { o with state := .busy })) sB tm2 df2 := by
    refine ⟨hrs2', ⟨fun r b hr => ?_, fun r b hr => ?_, hfr2.sr.apart, by rw [gset_other _ _ (by simp)]; exact hfr2.sr.ctr, hfr2.sr.noctr⟩, hfr2.sz, hfr2.tm, hfr2.df.turn hg2L, hfr2.n1⟩
    · rw [gset_other _ _ (by intro e; subst e; exact hB1 (has_of hr))]; exact hfr2.sr.own r b hr
    · rw [gset_other _ _ (by intro e; subst e; rw [hB2] at hr; simp at hr)]; exact hfr2.sr.out r b hr
  obtain ⟨e, st3, M3, g3, tm3, df3, w3, hq3, hfr3, hle3, hmv3, harr3⟩ := hy i2 hcy hf2 ℓ M.hs bR (c0 :: cs) [] M2 _ _ sB tm2 df2 _ (.inr hn2) hbf hfr2' hq2
  have hsteps : Steps C.P (lone bR (c0 :: cs) w) (lone (fon bR tm2 df2 [.code y]) (c0 :: cs) (w2.putObj L (.loop { o with state := .busy }))) := by
    rw [hbr]; exact Steps.trans harr2 (.one (mv_beginRound hro hbeg))
  have hg3L : g3 (.obj L) = some (.loop { o with state := .busy } tm0) := hmv3.frame _ _ (gset_same _ _ _) hB1 hB2 (by simp)
  obtain ⟨_, eb, hheap3, hown3, htm3⟩ := hfr3.rs.blk _ _ hg3L
  cases eb
  have hno3 : NoK ℓ L st3 := by
    refine ⟨hfr3.sr.noctr, ?_, hfr3.sr.apart⟩
    have : ¬ (st3.own.has (.obj L) ∨ st3.out (.obj L) ≠ none) := by
      intro h
      rcases hmv3.keys _ h with (h3 | h3) | h3
      · exact hB1 h3
      · exact h3 hB2
      · simp at h3
    exact ⟨fun h => this (.inl h), by
      cases e : st3.out (.obj L) with
      | none => rfl
      | some x => exact (this (.inr (by rw [e]; simp))).elim⟩
  -- what has happened
  have went : ∀ (g4 : OwnF) (w4 : World) (blk : Blk), RS C M3 g4 w4 → g4 (.obj L) = some blk → (∀ q x, q ≠ .obj L → g3 q = some x → (∀ b, q = .obj b → M.hs ≤ b → st3.own.has q ∨ st3.out q ≠ none) → g4 q = some x) → Went C M0 M3 g g4 w4 (frS ℓ L st2 (.loop o tm0)) (frS ℓ L st3 blk) := by
    intro g4 w4 blk hrs4 hL hk
    refine ⟨hle0.trans (hle2.trans hle3), hrs4, fun r b hr => ?_, fun q b hq hs => ?_, fun q hq => ?_⟩
    · by_cases e1 : r = .ctr ℓ
      · subst e1; rw [frS_ctr] at hr; simp at hr; subst hr
        exact hk _ _ (by simp) hfr3.sr.ctr (fun b e => by cases e)
      · by_cases e2 : r = .obj L
        · subst e2; rw [frS_obj] at hr; rw [hL]; exact hr
        · rw [frS_other e1 e2] at hr
          exact hk r b e2 (hfr3.sr.get r b hr) (fun _ _ _ => knows_of (by rw [hr]; simp))
    · obtain ⟨h1, h2, h3, h4⟩ := hs0 q hs
      have h5 := hmv2.frame q b hq h3 h4 h1
      obtain ⟨h6, h7⟩ := hk2 q (by rw [hq]; simp) h3 h4
      have h8 := hmv3.frame q b (by rw [gset_other _ _ h2]; exact h5) h6 h7 h1
      refine hk q b h2 h8 (fun b' e hb => ?_)
      subst e
      have := obj_lt hrs hq
      omega
    · by_cases e1 : q = .ctr ℓ
      · subst e1; left; rw [frS_ctr]; simp
      · by_cases e2 : q = .obj L
        · subst e2; left; rw [frS_obj]; simp
        · rw [frS_other e1 e2] at hq
          rw [frS_other e1 e2]
          rcases Classical.em (st2.get q = none) with hn | hn
          · right
            obtain ⟨h3, h4⟩ := get_none hn
            cases e3 : g q with
            | none => rfl
            | some b =>
              exfalso
              obtain ⟨h6, h7⟩ := hk2 q (by rw [e3]; simp) h3 h4
              have h5 := hmv2.frame q b e3 h3 h4 e1
              rcases hmv3.keys q (knows_of hq) with (h | h) | h
              · exact h6 h
              · exact h h7
              · rw [gset_other _ _ e2, h5] at h; simp at h
          · exact .inl hn
  have leave : ∀ (jump : Option Code) (k' : List Item), Steps C.P (lone (fon bR tm2 df2 [.code y]) (c0 :: cs) (w2.putObj L (.loop { o with state := .busy }))) (lone (fon bR tm3 df3 k') (c0 :: cs) w3) → ((jump = none ∧ k' = []) ∨ (jump = some .ret ∧ ∃ r, k' = .code .ret :: r) ∨ ∃ id r, jump = some (.exit id) ∧ k' = .code (.exit id) :: r ∧ exitTo id r = none) →
      ∃ g4 w4, Went C M0 M3 g g4 w4 (frS ℓ L st2 (.loop o tm0)) (frS ℓ L st3 (.loop { o with state := if jump.isNone then .ready else .done, pending := jump } tm0)) ∧ Steps C.P (lone bR (c0 :: cs) w) (lone (c0.finish (.bool jump.isNone)) cs w4) := by
    intro jump k' hst hk
    have hrs4 : RS C M3 (gset g3 (.obj L) (.loop { o with state := if jump.isNone then .ready else .done, pending := jump } tm0)) (w3.putObj L (.loop { o with state := if jump.isNone then .ready else .done, pending := jump })) :=
      turn_obj (o' := .loop { o with state := if jump.isNone then .ready else .done, pending := jump }) hfr3.rs hg3L (fun l e => by cases e) hheap3 rfl hown3 ⟨L, rfl, by rw [heap_set, if_pos rfl, if_pos (Array.getElem?_eq_some_iff.1 hheap3).1], hown3, htm3⟩
    have hend := run_endRound (P := C.P) jump hheap3
    exact ⟨_, _, went _ _ _ hrs4 (gset_same _ _ _) (fun q x hq h3 _ => by rw [gset_other _ _ hq]; exact h3), hsteps.trans (hst.trans (.one (mv_leave hro hkind hk hend)))⟩
  cases e with
  | normal =>
    obtain ⟨g4, w4, h1, h2⟩ := leave none [] harr3 (.inl ⟨rfl, rfl⟩)
    have hoe : ({ o with state := .ready, pending := none } : Loop) = o := by cases o; simp only at ho hop; subst ho hop; rfl
    simp only [Option.isNone_none, if_true, hoe] at h1
    exact ⟨.ret (.bool true), w4, ⟨M3, g4, .ret (.dat (.bool true)), _, h1, by simp [RRel, VD, V], .normal, st3, hno3, hq3, .inl ⟨rfl, rfl, rfl⟩⟩, h2⟩
  | ret =>
    obtain ⟨k', hk'⟩ := harr3
    obtain ⟨g4, w4, h1, h2⟩ := leave (some .ret) _ hk' (.inr (.inl ⟨rfl, k', rfl⟩))
    exact ⟨.ret (.bool false), w4, ⟨M3, g4, .ret (.dat (.bool false)), _, h1, by simp [RRel, VD, V], .ret, st3, hno3, hq3, .inr (.inl ⟨rfl, rfl, rfl⟩)⟩, h2⟩
  | exit id =>
    obtain ⟨k', hk1, hk'⟩ := harr3
    obtain ⟨g4, w4, h1, h2⟩ := leave (some (.exit id)) _ hk' (.inr (.inr ⟨id, k', rfl, rfl, by rw [hk1]; rfl⟩))
    exact ⟨.ret (.bool false), w4, ⟨M3, g4, .ret (.dat (.bool false)), _, h1, by simp [RRel, VD, V], .exit id, st3, hno3, hq3, .inr (.inr (.inl ⟨id, rfl, rfl, rfl⟩))⟩, h2⟩
  | pan d =>
    obtain ⟨v, k', hv, hst⟩ := harr3
    have hdr := hfr3.df
    rw [hpan d st3 hq3] at hdr
    obtain ⟨g4, w4, s1, s2, s3, s4⟩ := unmark df3 g3 w3 hfr3.rs hdr { fon bR tm3 df3 k' with mode := .panicking [{ v, recovered := false }] } (c0 :: cs) (by simp) rfl
    have h4L : g4 (.obj L) = some (.loop { o with state := .busy } tm0) := s4 _ _ hg3L (fun b e hb => by cases e; omega)
    obtain ⟨fn, hfn'⟩ := hbf
    refine ⟨.pan [{ v, recovered := false }], w4, ⟨M3, g4, .pan d, _, went g4 w4 _ s2 h4L (fun q x _ h3 h5 => s4 q x h3 h5), ⟨v, rfl, hv⟩, .pan d, st3, hno3, hq3, .inr (.inr (.inr ⟨d, _, rfl, rfl, rfl⟩))⟩, hsteps.trans (hst.trans (s1.trans (.one ?_)))⟩
    exact step_leave_panicked ⟨rfl, rfl, fn, hfn'⟩


/-- What is left behind all rounds. -/
def rangeQ (ℓ L : Nat) (tm0 : List (Nat × D)) (Q : Ex → St → Prop) : Option D → OwnF → Prop
  | none, S' => ∃ st3 o', S' = frS ℓ L st3 (.loop o' tm0) ∧ NoK ℓ L st3 ∧ o'.state ≠ .busy ∧ ((o'.pending = none ∧ Q .normal { st3 with tm := tm0 }) ∨ (o'.pending = some .ret ∧ Q .ret { st3 with tm := tm0 }) ∨ ∃ id, o'.pending = some (.exit id) ∧ Q (.exit id) { st3 with tm := tm0 })
  | some d, S' => ∃ st3 o', S' = frS ℓ L st3 (.loop o' tm0) ∧ NoK ℓ L st3 ∧ Q (.pan d) { st3 with tm := tm0 }

theorem runV_ok {x y : Code} {i1 i2 : IR} (hx : Sound C c nt x) (hy : Sound C c nt y) (hcx : comp c x = some i1.strip) (hcy : comp c y = some i2.strip) (hf1 : i1.fits nt = true) (hf2 : i2.fits nt = true) (hn1 : i1.nodefer = true) (hn2 : i2.nodefer = true)
    {o : Loop} (ho : o.state = .ready) (hop : o.pending = none) {ps : List Nat} (hps : o.params.toList = ps) (hass : o.assign = x) (hbody : o.body = y) (hfn : ∃ fn, C.P.funcs[o.fn]? = some fn) (hsz : o.tmps.size = nt) (hbnd : ∀ p ∈ ps, p < nt)
    {tm0 : List (Nat × D)} {Q : Ex → St → Prop} : ∀ (X : List (List D)) (st2 : St), NoK ℓ L st2 → st2.df = [] → rounds C ℓ (wp C ℓ i1) (wp C ℓ i2) ps tm0 X st2 Q → RunV C (.yld (.obj L)) X (frS ℓ L st2 (.loop o tm0)) (rangeQ ℓ L tm0 Q)
  | [], st2, hno, _, h => by
    simp only [rounds] at h
    exact ⟨st2, o, rfl, hno, by rw [ho]; simp, .inl ⟨hop, h⟩⟩
  | xs :: X, st2, hno, hdf, h => by
    simp only [rounds] at h
    obtain ⟨hlen, st1, hsh, hw⟩ := h
    have e : ({ st2 with tm := setPs tm0 ps xs } : St) = { st2 with tm := setPs tm0 ps xs, df := [] } := by cases st2; simp only at hdf; subst hdf; rfl
    rw [e] at hsh
    simp only [RunV]
    refine (round_ok hx hy hcx hcy hf1 hf2 hn1 hn2 ho hop hps hass hbody hfn hsz hbnd hno hlen (Qb := fun e st3 => match e with
          | .normal => rounds C ℓ (wp C ℓ i1) (wp C ℓ i2) ps tm0 X { st3 with df := [] } Q
          | .pan d => st3.df = [] ∧ Q (.pan d) { st3 with tm := tm0 }
          | .ret => Q .ret { st3 with tm := tm0 }
          | .exit id => Q (.exit id) { st3 with tm := tm0 }) (fun d st3 h => h.1) ⟨st1, hsh, hw⟩).mono fun r S' hr => ?_
    obtain ⟨e, st3, hno3, hq, hr⟩ := hr
    rcases hr with ⟨rfl, rfl, rfl⟩ | ⟨rfl, rfl, rfl⟩ | ⟨id, rfl, rfl, rfl⟩ | ⟨d, o', rfl, rfl, rfl⟩
    · exact runV_ok hx hy hcx hcy hf1 hf2 hn1 hn2 ho hop hps hass hbody hfn hsz hbnd X { st3 with df := [] } ⟨hno3.ctr, hno3.obj, hno3.apart⟩ rfl hq
    · exact ⟨st3, _, rfl, hno3, by simp, .inr (.inl ⟨rfl, hq⟩)⟩
    · exact ⟨st3, _, rfl, hno3, by simp, .inr (.inr ⟨id, rfl, hq⟩)⟩
    · exact ⟨st3, o', rfl, hno3, hq.2⟩

/-- One object more. -/
theorem RS.newObj (h : RS C M g w) (o : Obj) (x : Blk) (hb : RB { M with owner := fun b i => if b = w.heap.size then some (.obj w.heap.size) else M.owner b i } (.obj w.heap.size) (w.alloc o) x) :
    M.le { M with owner := fun b i => if b = w.heap.size then some (.obj w.heap.size) else M.owner b i } ∧
    RS C { M with owner := fun b i => if b = w.heap.size then some (.obj w.heap.size) else M.owner b i } (gset g (.obj w.heap.size) x) (w.alloc o) := by
  have hle : M.le { M with owner := fun b i => if b = w.heap.size then some (.obj w.heap.size) else M.owner b i } := ⟨fun _ _ _ h => h, fun _ _ h => h, Nat.le_refl _, Nat.le_refl _⟩
  have hno : g (.obj w.heap.size) = none := by
    cases e : g (.obj w.heap.size) with
    | none => rfl
    | some y => have := obj_lt h e; omega
  refine ⟨hle, fun b i v hk => ?_, fun b i r hr => ?_, fun q y hq => ?_, fun l hl => ?_, fun q y hq hv => ?_, h.plv, fun n => V.mono hle _ _ (h.glob n), h.low.alloc h.n0.1 _, by rw [World.size_alloc]; have := h.n0; simp only; omega⟩
  · have hlt := h.lt hk
    obtain ⟨h1, h2⟩ := h.known b i v hk
    exact ⟨by rw [World.cell?_alloc_lt (a := ⟨b, i, none⟩) (h := hlt)]; exact h1, by simp only; rw [if_neg (by omega)]; exact h2⟩
  · simp only at hr
    rw [World.size_alloc]
    split at hr
    · rename_i e; subst e; have := h.n0; omega
    · have := h.own b i r hr; omega
  · by_cases e : q = .obj w.heap.size
    · subst e; simp only [gset_same, Option.some.injEq] at hq; subst hq; exact hb
    · rw [gset_other _ _ e] at hq
      refine RB.keep hle (fun b i hr => ?_) (Keeps.alloc M q w _) (fun _ _ _ h => h) y (h.blk q y hq)
      simp only
      rw [if_neg (by have := (h.own b i q hr).1; omega)]; exact hr
  · obtain ⟨h1, h2⟩ := h.nf l hl
    exact ⟨by rw [gset_other _ _ (by simp)]; exact h1, h2⟩
  · obtain ⟨l, s, i, rfl⟩ := hv
    rw [gset_other _ _ (by simp)] at hq
    exact h.plc _ y hq ⟨l, s, i, rfl⟩

theorem DR.lt {st : St} (hrs : RS C M g w) {l : List (D × List D)} {ds : List Deferred} (h : DR C n1 M g st l ds) : ∀ d ∈ ds, ∀ b, d.target = .collected b → b < w.heap.size := by
  induction h with
  | nil => simp
  | mark h0 h1 h2 h3 h4 _ ih =>
    intro d hd b e
    rcases List.mem_cons.1 hd with rfl | hd
    · simp only [Target.collected.injEq] at e; subst e; exact obj_lt hrs h1
    · exact ih d hd b e
  | real h1 h2 h3 h4 _ ih =>
    intro d hd b e
    rcases List.mem_cons.1 hd with rfl | hd
    · exact (h4 b e).elim
    · exact ih d hd b e

theorem sound_rangef {f : Operand} {ps : Array Tmp} {x y : Code} (hx : Sound C c nt x) (hy : Sound C c nt y) : Sound C c nt (.rangeFunc f ps x y) := by
  intro ir hc hf ℓ n1 b cs k M g w st tm df Q hb hbf h hq
  simp only [comp, Option.bind_eq_some_iff, Option.map_eq_some_iff] at hc
  obtain ⟨j1, h1, j2, h2, e⟩ := hc
  cases ir <;> simp only [IR.strip, reduceCtorEq] at e
  rename_i f' ps' i1 i2
  simp only [IR.rangef.injEq] at e
  obtain ⟨rfl, rfl, rfl, rfl⟩ := e
  simp only [IR.fits, Bool.and_eq_true, List.all_eq_true, decide_eq_true_eq] at hf
  obtain ⟨⟨⟨⟨hf1, hf2⟩, hd1⟩, hd2⟩, hbnd⟩ := hf
  have hro : b.roundOf = none := hb.resolve_right (by simp [IR.nodefer])
  simp only [wp] at hq
  obtain ⟨K, st1, X, hap, hit, hrd⟩ := hq
  -- the block for what is put off, and the record
  have hnB : g (.obj w.heap.size) = none := by
    cases e : g (.obj w.heap.size) with
    | none => rfl
    | some y => have := obj_lt h.rs e; omega
  have hnL : g (.obj (w.heap.size + 1)) = none := by
    cases e : g (.obj (w.heap.size + 1)) with
    | none => rfl
    | some y => have := obj_lt h.rs e; omega
  obtain ⟨hleB, hrsB⟩ := h.rs.newObj (.deferred (some [])) (.obj (.deferred (some []))) ⟨_, rfl, World.alloc_heap_new w _, rfl, by simp⟩
  generalize hMB : ({ M with owner := fun b i => if b = w.heap.size then some (.obj w.heap.size) else M.owner b i } : Mem) = MB at hleB hrsB
  have hsz1 : (w.alloc (.deferred (some []))).heap.size = w.heap.size + 1 := World.size_alloc ..
  generalize hrec : ({ state := .ready, pending := none, fn := b.fn, tmps := tm, params := ps, assign := x, body := y, defers := w.heap.size } : Loop) = o
  obtain ⟨hleL, hrsL⟩ := hrsB.newObj (.loop o) (.loop o st.tm) ⟨_, rfl, World.alloc_heap_new _ _, by simp, fun t => by
    rw [← hrec]
    refine VD.mono (Mem.le.trans hleB ?_) _ _ (h.tm t)
    exact ⟨fun _ _ _ h => h, fun _ _ h => h, Nat.le_refl _, Nat.le_refl _⟩⟩
  generalize hML : ({ MB with owner := fun b i => if b = (w.alloc (.deferred (some []))).heap.size then some (.obj (w.alloc (.deferred (some []))).heap.size) else MB.owner b i } : Mem) = ML at hleL hrsL
  rw [hsz1] at hrsL
  have henter : (Instr.enterLoop b.fn tm ps x y b.roundOf).run C.P w = .ok (w.heap.size + 1, [{ target := .collected w.heap.size, args := #[] }]) ((w.alloc (.deferred (some []))).alloc (.loop o)) := by
    rw [hro, ← hrec]; exact run_enterLoop_outer ..
  generalize hw1 : ((w.alloc (.deferred (some []))).alloc (.loop o)) = w1 at hrsL henter
  generalize hB : w.heap.size = B at *
  generalize hg1 : gset (gset g (.obj B) (.obj (.deferred (some [])))) (.obj (B + 1)) (.loop o st.tm) = g1 at hrsL
  have hg1o : ∀ q b, g q = some b → g1 q = some b := by
    intro q b hq
    rw [← hg1, gset_other _ _ (by intro e; subst e; rw [hnL] at hq; simp at hq), gset_other _ _ (by intro e; subst e; rw [hnB] at hq; simp at hq)]; exact hq
  have hg1L : g1 (.obj (B + 1)) = some (.loop o st.tm) := by rw [← hg1]; simp
  have hg1B : g1 (.obj B) = some (.obj (.deferred (some []))) := by rw [← hg1, gset_other _ _ (by simp)]; simp
  have hstL : ¬ st.own.has (.obj (B + 1)) ∧ st.out (.obj (B + 1)) = none := by
    constructor
    · intro hh; obtain ⟨z, hz⟩ := has_iff hh; rw [h.sr.own _ _ hz] at hnL; simp at hnL
    · cases e : st.out (.obj (B + 1)) with
      | none => rfl
      | some z => rw [h.sr.out _ _ e] at hnL; simp at hnL
  have hstB : ¬ st.own.has (.obj B) ∧ st.out (.obj B) = none := by
    constructor
    · intro hh; obtain ⟨z, hz⟩ := has_iff hh; rw [h.sr.own _ _ hz] at hnB; simp at hnB
    · cases e : st.out (.obj B) with
      | none => rfl
      | some z => rw [h.sr.out _ _ e] at hnB; simp at hnB
  have hno1 : NoK ℓ (B + 1) st1 := by
    have hown : ∀ r, st1.own.has r → st.own.has r := fun r hr => by obtain ⟨z, hz⟩ := has_iff hr; exact has_of (hap.own r z hz).1
    have hout : ∀ r, st.out r = none → st1.out r = none := fun r hr => by
      cases e : st1.out r with
      | none => rfl
      | some z => rw [(hap.out r z e).1] at hr; simp at hr
    exact ⟨⟨fun hh => h.sr.noctr.1 (hown _ hh), hout _ h.sr.noctr.2⟩, ⟨fun hh => hstL.1 (hown _ hh), hout _ hstL.2⟩, fun r hr => hout r (h.sr.apart r (hown r hr))⟩
  have hKk : ∀ r z, K r = some z → st.own.has r ∨ st.out r ≠ none := fun r z hr => by
    rcases hap.sub r z hr with e | e
    · exact .inl (has_of e)
    · exact .inr (by rw [e]; simp)
  have hKg : ∀ r z, K r = some z → g r = some z := fun r z hr => by
    rcases hap.sub r z hr with e | e
    · exact h.sr.own r z e
    · exact h.sr.out r z e
  have hKc : K (.ctr ℓ) = none := by
    cases e : K (.ctr ℓ) with
    | none => rfl
    | some z =>
      rcases hKk _ _ e with hh | hh
      · exact (h.sr.noctr.1 hh).elim
      · exact (hh h.sr.noctr.2).elim
  have hKL : K (.obj (B + 1)) = none := by
    cases e : K (.obj (B + 1)) with
    | none => rfl
    | some z => rw [hKg _ _ e] at hnL; simp at hnL
  have hKB : K (.obj B) = none := by
    cases e : K (.obj B) with
    | none => rfl
    | some z => rw [hKg _ _ e] at hnB; simp at hnB
  have hst1g : ∀ r z, st1.get r = some z → g r = some z ∧ K r = none ∧ (st.own.has r ∨ st.out r ≠ none) := by
    intro r z hr
    unfold St.get at hr
    split at hr
    · rename_i z' e; simp only [Option.some.injEq] at hr; subst hr
      obtain ⟨a1, a2⟩ := hap.own r _ e
      exact ⟨h.sr.own r _ a1, a2, .inl (has_of a1)⟩
    · obtain ⟨a1, a2⟩ := hap.out r _ hr
      exact ⟨h.sr.out r _ a1, a2, .inr (by rw [a1]; simp)⟩
  have hSK : ∀ r, K r ≠ none → frS ℓ (B + 1) st1 (.loop o st.tm) r = none := by
    intro r hr
    have n1 : r ≠ .ctr ℓ := by intro e; subst e; exact hr hKc
    have n2 : r ≠ .obj (B + 1) := by intro e; subst e; exact hr hKL
    rw [frS_other n1 n2]
    cases e : st1.get r with
    | none => rfl
    | some z => exact (hr (hst1g r z e).2.1).elim
  have hctr1 : g1 (.ctr ℓ) = some (.ctr st.next) := hg1o _ _ h.sr.ctr
  have hS1 : (orF (frS ℓ (B + 1) st1 (.loop o st.tm)) K).within g1 := by
    intro r z hr
    unfold orF at hr
    split at hr
    · rename_i z' e
      simp only [Option.some.injEq] at hr; subst hr
      by_cases n1 : r = .ctr ℓ
      · subst n1; rw [frS_ctr] at e; simp only [Option.some.injEq] at e; rw [← e, hap.next]; exact hctr1
      · by_cases n2 : r = .obj (B + 1)
        · subst n2; rw [frS_obj] at e; rw [← e]; exact hg1L
        · rw [frS_other n1 n2] at e; exact hg1o _ _ (hst1g r _ e).1
    · exact hg1o _ _ (hKg r z hr)
  have hle1 : M.le ML := hleB.trans hleL
  have hrun := hit (.yld (.obj (B + 1))) (frS ℓ (B + 1) st1 (.loop o st.tm)) (rangeQ ℓ (B + 1) st.tm (fun e st2 => ∃ st3, Joined st.df st2 K st3 ∧ Q e st3)) hSK
    (fun xs hxs => runV_ok hx hy h1 h2 hf1 hf2 hd1 hd2 (by rw [← hrec]) (by rw [← hrec]) (by rw [← hrec]) (by rw [← hrec]) (by rw [← hrec]) (by rw [← hrec]; exact hbf) (by rw [← hrec]; exact h.sz) (fun p hp => hbnd p hp) xs st1 hno1 hap.df (hrd xs hxs))
  obtain ⟨nx, w2, hr2, hgo⟩ := hrun ML g1 w1 _ [yieldV (B + 1)] hrsL hS1 (VD.mono hle1 _ _ (h.val (b := b) f)) (by simp only [VDl, VD]; exact ⟨⟨_, rfl, rfl⟩, trivial⟩)
  have hgo' := hgo (fon b tm (⟨.collected B, #[]⟩ :: df) (.inRangeFunc (B + 1) :: k)) cs
  have hr2' : (callS ((fon b tm df []).eval f) [yieldV (B + 1)]).run C.P w1 = .ok nx w2 := hr2
  have fin : ∀ (mr : MRes) (w' : World), Steps C.P (lone (fon b tm df (.code (.rangeFunc f ps x y) :: k)) cs w) (mr.fin (fon b tm (⟨.collected B, #[]⟩ :: df) (.inRangeFunc (B + 1) :: k)) cs w') →
      (∃ M' g' r S', Went C ML M' g1 g' w' (orF (frS ℓ (B + 1) st1 (.loop o st.tm)) K) S' ∧ RRel M' r mr ∧ (match r with
        | .ret _ => ∃ S1, S' = orF S1 K ∧ (∀ r, K r ≠ none → S1 r = none) ∧ rangeQ ℓ (B + 1) st.tm (fun e st2 => ∃ st3, Joined st.df st2 K st3 ∧ Q e st3) none S1
        | .pan d => ∃ S1, S' = orF S1 K ∧ (∀ r, K r ≠ none → S1 r = none) ∧ rangeQ ℓ (B + 1) st.tm (fun e st2 => ∃ st3, Joined st.df st2 K st3 ∧ Q e st3) (some d) S1)) →
      Ends C ℓ nt n1 b cs k M g st (lone (fon b tm df (.code (.rangeFunc f ps x y) :: k)) cs w) Q := by
    intro mr w' hst ⟨M', g', r, S', hwent, hrel, hq⟩
    -- the state that is told of
    have back : ∀ (S1 : OwnF) (st2 st3 : St) (o' : Loop), S' = orF S1 K → (∀ r, K r ≠ none → S1 r = none) → S1 = frS ℓ (B + 1) st2 (.loop o' st.tm) → NoK ℓ (B + 1) st2 → Joined st.df { st2 with tm := st.tm } K st3 → ∀ (x' : Blk) (w'' : World), RS C M' (gset g' (.obj (B + 1)) x') w'' →
        FR C ℓ nt n1 M' (gset g' (.obj (B + 1)) x') w'' st3 tm (⟨.collected B, #[]⟩ :: df) ∧ Moved g (gset g' (.obj (B + 1)) x') ℓ st st3 ∧ g' (.obj (B + 1)) = some (.loop o' st.tm) := by
      intro S1 st2 st3 o' hS' hdis hS1' hno hj x' w'' hrs''
      subst hS1'
      have kin : ∀ q, st3.get q ≠ none → (frS ℓ (B + 1) st2 (.loop o' st.tm) q ≠ none ∧ q ≠ .ctr ℓ ∧ q ≠ .obj (B + 1)) ∨ K q ≠ none := by
        intro q hq
        have hh : ∀ z, ({ st2 with tm := st.tm } : St).get q = some z → frS ℓ (B + 1) st2 (.loop o' st.tm) q ≠ none ∧ q ≠ .ctr ℓ ∧ q ≠ .obj (B + 1) := by
          intro z hz
          have hz' : st2.get q = some z := hz
          have n1 : q ≠ .ctr ℓ := by
            intro e; subst e
            rcases knows_of (st := st2) (by rw [hz']; simp) with a | a
            · exact hno.ctr.1 a
            · exact a hno.ctr.2
          have n2 : q ≠ .obj (B + 1) := by
            intro e; subst e
            rcases knows_of (st := st2) (by rw [hz']; simp) with a | a
            · exact hno.obj.1 a
            · exact a hno.obj.2
          exact ⟨by rw [frS_other n1 n2, hz']; simp, n1, n2⟩
        rcases knows_of hq with a | a
        · obtain ⟨z, hz⟩ := has_iff a
          rcases hj.own q z hz with b1 | b1
          · exact .inl (hh z (get_of_own b1))
          · exact .inr (by rw [b1]; simp)
        · cases e : st3.out q with
          | none => exact (a e).elim
          | some z =>
            rcases hj.out q z e with b1 | b1
            · refine .inl (hh z ?_)
              rw [get_of_out (fun e => by have := hno.apart q e; simp only at b1; rw [this] at b1; simp at b1)]
              exact b1
            · exact .inr (by rw [b1]; simp)
      have val : ∀ q z, (ownGet st3.own q = some z ∨ st3.out q = some z) → g' q = some z := by
        intro q z hq
        have hz : (∃ y, y = z ∧ st2.get q = some y) ∨ K q = some z := by
          rcases hq with hq | hq
          · rcases hj.own q z hq with b1 | b1
            · exact .inl ⟨z, rfl, get_of_own b1⟩
            · exact .inr b1
          · rcases hj.out q z hq with b1 | b1
            · refine .inl ⟨z, rfl, ?_⟩
              rw [get_of_out (fun e => by have := hno.apart q e; simp only at b1; rw [this] at b1; simp at b1)]
              exact b1
            · exact .inr b1
        refine hwent.within q z ?_
        rw [hS']
        rcases hz with ⟨y, rfl, hy⟩ | hz
        · have n1 : q ≠ .ctr ℓ := by
            intro e; subst e
            rcases knows_of (st := st2) (by rw [hy]; simp) with a | a
            · exact hno.ctr.1 a
            · exact a hno.ctr.2
          have n2 : q ≠ .obj (B + 1) := by
            intro e; subst e
            rcases knows_of (st := st2) (by rw [hy]; simp) with a | a
            · exact hno.obj.1 a
            · exact a hno.obj.2
          unfold orF; rw [frS_other n1 n2, hy]
        · unfold orF; rw [hdis q (by rw [hz]; simp)]; exact hz
      have nL : ∀ z, ¬ (ownGet st3.own (.obj (B + 1)) = some z ∨ st3.out (.obj (B + 1)) = some z) := by
        intro z hz
        have hne : st3.get (.obj (B + 1)) ≠ none := get_ne_none (by
          rcases hz with a | a
          · exact .inl (has_of a)
          · exact .inr (by rw [a]; simp))
        rcases kin _ hne with ⟨_, _, a⟩ | a
        · exact a rfl
        · exact a hKL
      have hgc : g' (.ctr ℓ) = some (.ctr st2.next) := hwent.within _ _ (by rw [hS']; unfold orF; rw [frS_ctr])
      have hgL : g' (.obj (B + 1)) = some (.loop o' st.tm) := hwent.within _ _ (by rw [hS']; unfold orF; rw [frS_obj])
      have nc : ¬ st3.own.has (.ctr ℓ) ∧ st3.out (.ctr ℓ) = none := by
        apply get_none
        cases e : st3.get (.ctr ℓ) with
        | none => rfl
        | some z =>
          rcases kin (.ctr ℓ) (by rw [e]; simp) with ⟨_, a, _⟩ | a
          · exact (a rfl).elim
          · exact (a hKc).elim
      have hmv : Moved g (gset g' (.obj (B + 1)) x') ℓ st st3 := by
        refine ⟨fun q z hq n1 n2 n3 => ?_, fun q hq => ?_⟩
        · have n4 : q ≠ .obj (B + 1) := by intro e; subst e; rw [hnL] at hq; simp at hq
          rw [gset_other _ _ n4]
          refine hwent.frame q z (hg1o _ _ hq) ?_
          unfold orF
          rw [frS_other n3 n4]
          have e1 : st1.get q = none := by
            cases e : st1.get q with
            | none => rfl
            | some z' =>
              rcases (hst1g q z' e).2.2 with a | a
              · exact (n1 a).elim
              · exact (a n2).elim
          rw [e1]
          cases e : K q with
          | none => rfl
          | some z' =>
            rcases hKk q z' e with a | a
            · exact (n1 a).elim
            · exact (a n2).elim
        · have hkey : orF (frS ℓ (B + 1) st2 (.loop o' st.tm)) K q ≠ none ∧ ((q ≠ .ctr ℓ ∧ q ≠ .obj (B + 1)) ∨ K q ≠ none) := by
            rcases kin q (get_ne_none hq) with ⟨a, a1, a2⟩ | a
            · refine ⟨?_, .inl ⟨a1, a2⟩⟩
              unfold orF
              cases e : frS ℓ (B + 1) st2 (.loop o' st.tm) q with
              | none => exact (a e).elim
              | some z => simp
            · refine ⟨?_, .inr a⟩
              unfold orF
              cases e : frS ℓ (B + 1) st2 (.loop o' st.tm) q with
              | none => exact a
              | some z => simp
          rcases hkey.2 with ⟨n1, n2⟩ | hKq
          · rcases hwent.keys q (by rw [hS']; exact hkey.1) with a | a
            · unfold orF at a
              rw [frS_other n1 n2] at a
              cases e : st1.get q with
              | none =>
                rw [e] at a
                cases e2 : K q with
                | none => exact (a e2).elim
                | some z => exact .inl (hKk q z e2)
              | some z => exact .inl (hst1g q z e).2.2
            · right
              cases e : g q with
              | none => rfl
              | some z => rw [hg1o _ _ e] at a; simp at a
          · cases e2 : K q with
            | none => exact (hKq e2).elim
            | some z => exact .inl (hKk q z e2)
      refine ⟨⟨hrs'', ⟨fun r z hr => ?_, fun r z hr => ?_, hj.apart, ?_, nc⟩, h.sz, fun t => ?_, ?_, ?_⟩, hmv, hgL⟩
      · rw [gset_other _ _ (by intro e; subst e; exact nL z (.inl hr))]; exact val r z (.inl hr)
      · rw [gset_other _ _ (by intro e; subst e; exact nL z (.inr hr))]; exact val r z (.inr hr)
      · rw [gset_other _ _ (by simp), hj.next]; exact hgc
      · rw [hj.tm]; exact VD.mono (hle1.trans hwent.le) _ _ (h.tm t)
      · rw [hj.df]
        have nB : st3.get (.obj B) = none := by
          cases e : st3.get (.obj B) with
          | none => rfl
          | some z =>
            exfalso
            rcases kin (.obj B) (by rw [e]; simp) with ⟨a, _, a2⟩ | a
            · rcases hwent.keys (.obj B) (by
                  rw [hS']; unfold orF
                  cases e3 : frS ℓ (B + 1) st2 (.loop o' st.tm) (.obj B) with
                  | none => exact (a e3).elim
                  | some z => simp) with a3 | a3
              · unfold orF at a3
                rw [frS_other (by simp) (by simp)] at a3
                cases e4 : st1.get (.obj B) with
                | none => rw [e4] at a3; exact a3 hKB
                | some z' => rw [(hst1g _ _ e4).1] at hnB; simp at hnB
              · rw [hg1B] at a3; simp at a3
            · exact a hKB
        obtain ⟨nB1, nB2⟩ := get_none nB
        have hSB : orF (frS ℓ (B + 1) st1 (.loop o st.tm)) K (.obj B) = none := by
          unfold orF
          rw [frS_other (by simp) (by simp)]
          cases e4 : st1.get (.obj B) with
          | none => exact hKB
          | some z' => rw [(hst1g _ _ e4).1] at hnB; simp at hnB
        have hgB : g' (.obj B) = some (.obj (.deferred (some []))) := hwent.frame _ _ hg1B hSB
        refine .mark (by have := h.n1; have := h.rs.n0; omega) (by rw [gset_other _ _ (by simp)]; exact hgB) nB1 nB2 (fun d hd e => ?_) (DR.move (hle1.trans hwent.le) hmv h.df)
        have := DR.lt h.rs h.df d hd B e
        omega
      · exact Nat.le_trans h.n1 (hle1.trans hwent.le).hs
    cases r with
    | ret d =>
      cases mr with
      | pan ch => exact hrel.elim
      | ret v =>
        obtain ⟨S1, e1, e2, st2, o', e3, hno, hbusy, hcase⟩ := hq
        have main : ∀ (jump : Option Code) (e : Ex), o'.pending = jump → (∃ st3, Joined st.df { st2 with tm := st.tm } K st3 ∧ Q e st3) → (∀ M2 tm2 df2 w2, Steps C.P (lone (fon b tm df (.code (.rangeFunc f ps x y) :: k)) cs w) (lone (fon b tm2 df2 ((jump.map Item.code).toList ++ k)) cs w2) → Arr C.P (lone (fon b tm df (.code (.rangeFunc f ps x y) :: k)) cs w) b cs k M2 tm2 df2 w2 e) →
            Ends C ℓ nt n1 b cs k M g st (lone (fon b tm df (.code (.rangeFunc f ps x y) :: k)) cs w) Q := by
          intro jump e hjump ⟨st3, hj, hQ⟩ harr
          have hgL : g' (.obj (B + 1)) = some (.loop o' st.tm) := hwent.within _ _ (by rw [e1, e3]; unfold orF; rw [frS_obj])
          obtain ⟨_, eb, hheap, hown, htm⟩ := hwent.rs.blk _ _ hgL
          cases eb
          have hrs'' := turn_obj (b := .loop { o' with state := .exhausted } st.tm) (o' := .loop { o' with state := .exhausted }) hwent.rs hgL (fun l e => by cases e) hheap rfl hown ⟨_, rfl, by rw [heap_set, if_pos rfl, if_pos (Array.getElem?_eq_some_iff.1 hheap).1], hown, htm⟩
          obtain ⟨q1, q2, _⟩ := back S1 st2 st3 o' e1 e2 e3 hno hj _ _ hrs''
          have hend : (Instr.endLoop (B + 1)).run C.P w' = .ok jump (w'.putObj (B + 1) (.loop { o' with state := .exhausted })) := by rw [← hjump]; exact run_endLoop (P := C.P) hheap hbusy
          refine ⟨e, st3, M', _, tm, _, _, hQ, q1, hle1.trans hwent.le, q2, harr M' tm _ _ ?_⟩
          simp only [MRes.fin, finish_inRange] at hst
          exact hst.trans (.one (mv_endRange hend))
        rcases hcase with ⟨hp, hQ⟩ | ⟨hp, hQ⟩ | ⟨id, hp, hQ⟩
        · exact main none .normal hp hQ (fun M2 tm2 df2 w2 hs => hs)
        · exact main (some .ret) .ret hp hQ (fun M2 tm2 df2 w2 hs => ⟨k, hs⟩)
        · exact main (some (.exit id)) (.exit id) hp hQ (fun M2 tm2 df2 w2 hs => ⟨k, rfl, hs⟩)
    | pan d =>
      cases mr with
      | ret v => exact hrel.elim
      | pan ch =>
        obtain ⟨S1, e1, e2, st2, o', e3, hno, st3, hj, hQ⟩ := hq
        obtain ⟨v, rfl, hv⟩ := hrel
        have hgL : g' (.obj (B + 1)) = some (.loop o' st.tm) := hwent.within _ _ (by rw [e1, e3]; unfold orF; rw [frS_obj])
        have hsame : gset g' (.obj (B + 1)) (.loop o' st.tm) = g' := by
          funext q; unfold gset; split
          · rename_i e; subst e; exact hgL.symm
          · rfl
        obtain ⟨q1, q2, _⟩ := back S1 st2 st3 o' e1 e2 e3 hno hj (.loop o' st.tm) w' (by rw [hsame]; exact hwent.rs)
        exact ⟨.pan d, st3, M', _, tm, _, w', hQ, q1, hle1.trans hwent.le, q2, v, _, hv, hst⟩
  cases nx with
  | value v => exact fin (.ret v) w2 (.one (range_value henter hr2')) hgo'
  | enter q args =>
    obtain ⟨mr, w', a, a2⟩ := hgo'
    exact fin mr w' (.head (range_enter henter hr2') a2) a
  | round l2 q tmps x2 y2 =>
    obtain ⟨mr, w', a, a2⟩ := hgo'
    exact fin mr w' (.head (range_round henter hr2') a2) a
  | _ => exact hgo'.elim

end
end Go.Abs

/- The abstract layer, part 35: rows whose order is left open. No conditions. -/
namespace Go.Abs
open Go.RowKit

/-- Operands that look at some slots only. -/
def Opd.in (x : Opd) (l : List Nat) : Prop := ∀ t ∈ x.tmps, t ∈ l
def Agree (v v' : Opd → D) (l : List Nat) : Prop := ∀ x : Opd, x.in l → v x = v' x

theorem Agree.sub {v v' : Opd → D} {l l' : List Nat} (h : Agree v v' l) (hs : ∀ t ∈ l', t ∈ l) : Agree v v' l' := fun x hx => h x fun t ht => hs t (hx t ht)
theorem Agree.opd {v v' : Opd → D} {x : Opd} (h : Agree v v' x.tmps) : v x = v' x := h x fun _ ht => ht
theorem Agree.list {v v' : Opd → D} {xs : List Opd} (h : Agree v v' (xs.flatMap Opd.tmps)) : xs.map v = xs.map v' :=
  List.map_congr_left fun x hx => h x fun t ht => List.mem_flatMap.2 ⟨x, hx, ht⟩
theorem Agree.opt {v v' : Opd → D} {x : Option Opd} (h : Agree v v' (otmps x)) : x.map v = x.map v' := by
  cases x with
  | none => rfl
  | some x => simp only [Option.map_some, Option.some.injEq]; exact h x fun t ht => ht

theorem evR_congr {get : Ref → Option Blk} {v v' : Opd → D} {op : IOp} (h : Agree v v' op.tmps) : evR get v op = evR get v' op := by
  cases op <;> simp only [IOp.tmps] at h <;> try rfl
  all_goals first
    | (simp only [evR, h.opd]; done)
    | skip
  case pick c a b =>
    have h1 : v c = v' c := (h.sub (l' := c.tmps) (by intro t ht; simp [ht])).opd
    have h2 : v a = v' a := (h.sub (l' := a.tmps) (by intro t ht; simp [ht])).opd
    have h3 : v b = v' b := (h.sub (l' := b.tmps) (by intro t ht; simp [ht])).opd
    simp only [evR, h1, h2, h3]
  case build z ps =>
    have : (ps.map fun p => (p.1, p.2.1, v p.2.2)) = ps.map fun p => (p.1, p.2.1, v' p.2.2) := List.map_congr_left fun p hp => by
      rw [h p.2.2 fun t ht => List.mem_flatMap.2 ⟨p, hp, ht⟩]
    simp only [evR, this]
  case bslice arr k g z n ps =>
    have : (ps.map fun p => (p.1, (v p.2).elem)) = ps.map fun p => (p.1, (v' p.2).elem) := List.map_congr_left fun p hp => by
      rw [h p.2 fun t ht => List.mem_flatMap.2 ⟨p, hp, ht⟩]
    cases arr <;> simp only [evR, this]
  case mkfn f a b =>
    have h1 : a.map v = a.map v' := (h.sub (l' := a.flatMap Opd.tmps) (by intro t ht; exact List.mem_append.2 (.inl ht))).list
    have h2 : b.map v = b.map v' := (h.sub (l' := b.flatMap Opd.tmps) (by intro t ht; exact List.mem_append.2 (.inr ht))).list
    simp only [evR, h1, h2]
  case slice k x lo hi mx =>
    have h1 : v x = v' x := (h.sub (l' := x.tmps) (by intro t ht; simp [ht])).opd
    have h2 : lo.map v = lo.map v' := (h.sub (l' := otmps lo) (by intro t ht; simp [ht])).opt
    have h3 : hi.map v = hi.map v' := (h.sub (l' := otmps hi) (by intro t ht; simp [ht])).opt
    have h4 : mx.map v = mx.map v' := (h.sub (l' := otmps mx) (by intro t ht; simp [ht])).opt
    simp only [evR, h1, h2, h3, h4]
  case sslice x lo hi =>
    have h1 : v x = v' x := (h.sub (l' := x.tmps) (by intro t ht; simp [ht])).opd
    have h2 : lo.map v = lo.map v' := (h.sub (l' := otmps lo) (by intro t ht; simp [ht])).opt
    have h3 : hi.map v = hi.map v' := (h.sub (l' := otmps hi) (by intro t ht; simp [ht])).opt
    simp only [evR, h1, h2, h3]
  case mnmx mx xs =>
    have h1 : xs.map v = xs.map v' := h.list
    cases xs with
    | nil => rfl
    | cons x xs =>
      simp only [List.map_cons, List.cons.injEq] at h1
      simp only [evR, h1.1, h1.2]
  case lookup q z ok a x =>
    have h1 : v a = v' a := (h.sub (l' := a.tmps) (by intro t ht; simp [ht])).opd
    have h2 : v x = v' x := (h.sub (l' := x.tmps) (by intro t ht; simp [ht])).opd
    simp only [evR, h1, h2]
  all_goals
    rename_i a x
    have h1 : v a = v' a := (h.sub (l' := a.tmps) (by intro t ht; simp [ht])).opd
    have h2 : v x = v' x := (h.sub (l' := x.tmps) (by intro t ht; simp [ht])).opd
    simp only [evR, h1, h2]

theorem evW_congr {ℓ d : Nat} {st : St} {v v' : Opd → D} {op : IOp} (h : Agree v v' op.tmps) : evW ℓ d st v op = evW ℓ d st v' op := by
  cases op <;> simp only [IOp.tmps] at h <;> try rfl
  all_goals first
    | (simp only [evW, h.opd]; done)
    | skip
  case bslice arr k g z n ps =>
    have : (ps.map fun p => (p.1, v p.2)) = ps.map fun p => (p.1, v' p.2) := List.map_congr_left fun p hp => by
      rw [h p.2 fun t ht => List.mem_flatMap.2 ⟨p, hp, ht⟩]
    cases arr <;> simp only [evW, this]
  case mapset q m k x =>
    have h1 : v m = v' m := (h.sub (l' := m.tmps) (by intro t ht; simp [ht])).opd
    have h2 : v k = v' k := (h.sub (l' := k.tmps) (by intro t ht; simp [ht])).opd
    have h3 : v x = v' x := (h.sub (l' := x.tmps) (by intro t ht; simp [ht])).opd
    simp only [evW, h1, h2, h3]
  all_goals
    rename_i a x
    have h1 : v a = v' a := (h.sub (l' := a.tmps) (by intro t ht; simp [ht])).opd
    have h2 : v x = v' x := (h.sub (l' := x.tmps) (by intro t ht; simp [ht])).opd
    simp only [evW, h1, h2]

/-- The same but for the slots. -/
def St.tmd (st : St) (t : List (Nat × D)) : St := { st with tm := t }
@[simp] theorem tmd_get (st : St) (t : List (Nat × D)) : (st.tmd t).get = st.get := rfl
@[simp] theorem tmd_own (st : St) (t : List (Nat × D)) : (st.tmd t).own = st.own := rfl
@[simp] theorem tmd_out (st : St) (t : List (Nat × D)) : (st.tmd t).out = st.out := rfl
@[simp] theorem tmd_next (st : St) (t : List (Nat × D)) : (st.tmd t).next = st.next := rfl
@[simp] theorem tmd_tm (st : St) (t : List (Nat × D)) : (st.tmd t).tm = t := rfl
theorem tmd_upd (st : St) (t : List (Nat × D)) (r : Ref) (b : Blk) : (st.tmd t).upd r b = (st.upd r b).tmd t := by
  unfold St.upd; simp only [tmd_own]; split <;> rfl
theorem tmd_del (st : St) (t : List (Nat × D)) (r : Ref) : (st.tmd t).del r = (st.del r).tmd t := by
  unfold St.del; simp only [tmd_own]; split <;> rfl
theorem tmd_new (st : St) (t : List (Nat × D)) (ℓ s : Nat) (b : Blk) : (st.tmd t).new ℓ s b = (st.new ℓ s b).tmd t := rfl

theorem evW_tmd {ℓ d : Nat} {st : St} {v : Opd → D} {op : IOp} (t : List (Nat × D)) : evW ℓ d (st.tmd t) v op = (evW ℓ d st v op).map fun p => (p.1, p.2.tmd t) := by
  cases op <;> simp only [evW, Option.map_none]
  case alloc z => split <;> simp [tmd_new]
  case box n x => split <;> simp [tmd_new]
  case mkmap => simp [tmd_new]
  case store n a x =>
    have : storeSt (st.tmd t) n (v x) (v a) = (storeSt st n (v x) (v a)).map (·.tmd t) := by
      unfold storeSt; simp only [tmd_get]
      split
      · split
        · split <;> simp [tmd_upd]
        · split <;> simp [tmd_upd]
        · rfl
      · rfl
    rw [this, Option.map_map, Option.map_map]; rfl
  case mapset q m k x =>
    have : mapsetSt q (st.tmd t) (v m) (v k) (v x) = (mapsetSt q st (v m) (v k) (v x)).map (·.tmd t) := by
      unfold mapsetSt; simp only [tmd_get]
      split
      · split
        · split
          · rw [Option.map_map]; congr 1; funext es; simp [tmd_upd]
          · rfl
        · rfl
      · rfl
    rw [this, Option.map_map, Option.map_map]; rfl
  case delete q m k =>
    have : mapdelSt q (st.tmd t) (v m) (v k) = (mapdelSt q st (v m) (v k)).map (·.tmd t) := by
      unfold mapdelSt; simp only [tmd_get]
      split
      · split
        · split
          · rw [Option.map_map]; congr 1; funext es; simp [tmd_upd]
          · rfl
        · rfl
      · rfl
    rw [this, Option.map_map, Option.map_map]; rfl
  case append arr k g by' x y =>
    split
    · unfold appendSt; simp only [tmd_get]
      cases arr with
      | true =>
        simp only [cond_true]
        cases appCells st.get k (v y) with
        | none => rfl
        | some p =>
          obtain ⟨ys, n⟩ := p
          simp only [Option.bind_some]
          split
          · split
            · simp
            · split <;> simp [tmd_new]
          · split
            · split <;> simp [tmd_new, tmd_del]
            · rfl
          · rfl
      | false =>
        simp only [cond_false]
        cases appElems st.get k (v y) with
        | none => rfl
        | some ys =>
          simp only [Option.bind_some]
          split
          · split <;> simp [tmd_new]
          · split
            · split <;> simp [tmd_new, tmd_del]
            · rfl
          · rfl
    · rfl
  case bslice arr k g z n ps =>
    cases arr with
    | false => rfl
    | true =>
      simp only [evW]
      split
      · rw [Option.map_map]; congr 1
      · rfl
  case mkslice arr k g z by' l c =>
    split
    · unfold mksliceSt
      split
      · split
        · cases arr <;> simp [tmd_new]
        · rfl
      · rfl
    · rfl
  case copy k x y =>
    unfold copySt; simp only [tmd_get]
    split
    · split
      · cases appCells st.get k (v y) with
        | none => rfl
        | some p =>
          obtain ⟨ys, n⟩ := p
          simp only [Option.bind_some]
          split <;> simp [tmd_upd]
      · rfl
    · rfl
  case range x =>
    unfold rangeSt; simp only [tmd_get]
    split
    · split
      · simp [tmd_upd]; rfl
      · rfl
    · rfl
  case entry x =>
    simp only [tmd_get, Option.map_map]; rfl

/-! ### The same slots, told in another order -/

structure TmEq (a b : St) : Prop where
  tm : ∀ t, tmGet a.tm t = tmGet b.tm t
  own : a.own = b.own
  out : a.out = b.out
  next : a.next = b.next
  df : a.df = b.df

theorem TmEq.refl (a : St) : TmEq a a := ⟨fun _ => rfl, rfl, rfl, rfl, rfl⟩
theorem TmEq.symm {a b : St} (h : TmEq a b) : TmEq b a := ⟨fun t => (h.tm t).symm, h.own.symm, h.out.symm, h.next.symm, h.df.symm⟩
theorem TmEq.trans {a b c : St} (h : TmEq a b) (k : TmEq b c) : TmEq a c := ⟨fun t => (h.tm t).trans (k.tm t), h.own.trans k.own, h.out.trans k.out, h.next.trans k.next, h.df.trans k.df⟩
theorem TmEq.eq {a b : St} (h : TmEq a b) : b = a.tmd b.tm := by
  obtain ⟨_, h1, h2, h3, h4⟩ := h
  cases a; cases b; simp only at h1 h2 h3 h4; subst h1 h2 h3 h4; rfl
theorem TmEq.get {a b : St} (h : TmEq a b) : a.get = b.get := by rw [h.eq]; rfl
theorem TmEq.val {a b : St} (h : TmEq a b) (G : Nat → Dat) : a.val G = b.val G := by
  funext x; cases x <;> simp only [St.val]; exact h.tm _
theorem TmEq.put {a b : St} (h : TmEq a b) (d : Option Nat) (v : D) : TmEq (a.put d v) (b.put d v) := by
  cases d with
  | none => exact h
  | some t => exact ⟨fun u => by simp only [St.put, tmGet_set]; rw [h.tm u], h.own, h.out, h.next, h.df⟩
theorem TmEq.put_comm (a : St) {d e : Option Nat} (h : ∀ t, d = some t → e ≠ some t) (v u : D) : TmEq ((a.put d v).put e u) ((a.put e u).put d v) := by
  cases d with
  | none => exact .refl _
  | some t => cases e with
    | none => exact .refl _
    | some s =>
      refine ⟨fun w => ?_, rfl, rfl, rfl, rfl⟩
      simp only [St.put, tmGet_set]
      by_cases h1 : w = s
      · by_cases h2 : w = t
        · exact (h t rfl (by rw [← h2, h1])).elim
        · rw [if_pos h1, if_neg h2, if_pos h1]
      · rw [if_neg h1, if_neg h1]

theorem evW_put {ℓ d : Nat} {st : St} {v : Opd → D} {op : IOp} (e : Option Nat) (u : D) : evW ℓ d (st.put e u) v op = (evW ℓ d st v op).map fun p => (p.1, p.2.put e u) := by
  cases e with
  | none => simp [St.put]
  | some t =>
    have := evW_tmd (ℓ := ℓ) (d := d) (st := st) (v := v) (op := op) ((t, u) :: st.tm)
    simp only [St.put] at *
    refine this.trans ?_
    cases h : evW ℓ d st v op with
    | none => rfl
    | some p =>
      obtain ⟨x, s⟩ := p
      simp only [Option.map_some, Option.some.injEq, Prod.mk.injEq, true_and]
      rw [← (evW_same h).1]; rfl
theorem put_get (st : St) (d : Option Nat) (v : D) : (st.put d v).get = st.get := by cases d <;> rfl
theorem put_tm (st : St) (d : Option Nat) (v : D) (t : Nat) (h : d ≠ some t) : tmGet (st.put d v).tm t = tmGet st.tm t := by
  cases d with
  | none => rfl
  | some s => simp only [St.put, tmGet_set]; rw [if_neg (by intro e; subst e; exact h rfl)]

theorem agree_put (G : Nat → Dat) (st : St) (d : Option Nat) (u : D) (l : List Nat) (h : ∀ t, d = some t → t ∉ l) : Agree ((st.put d u).val G) (st.val G) l := by
  intro x hx
  cases x <;> simp only [St.val]
  rename_i n
  exact put_tm st d u n (fun e => h n e (hx n (by simp [Opd.tmps])))
theorem agree_of_tm (G : Nat → Dat) {a b : St} (h : ∀ t, tmGet a.tm t = tmGet b.tm t) : a.val G = b.val G := by
  funext x; cases x <;> simp only [St.val]; exact h _

section
variable {C : Ctx} {c : Cfg} {ℓ nt n1 : Nat}

/-- What goes on, told with less. -/
def KLe (K K' : (OwnF → Prop) → St → Prop) : Prop := ∀ rd rd' st st', (∀ get, rd get → rd' get) → TmEq st st' → K rd st → K' rd' st'

theorem drawX_mono {rd rd' : OwnF → Prop} {chk : Bool} {d : Option Nat} {op : IOp} {st st' : St} {K K' : (OwnF → Prop) → St → Prop} (hK : KLe K K') (hrd : ∀ get, rd get → rd' get) (ht : TmEq st st') (h : drawX C ℓ rd chk d op st K) : drawX C ℓ rd' chk d op st' K' := by
  unfold drawX at h ⊢
  rw [← ht.val, ← ht.get]
  cases hW : isW op with
  | true =>
    rw [hW] at h
    simp only [cond_true] at h ⊢
    rw [ht.eq, evW_tmd]
    split at h
    · rename_i v s e
      rw [e]
      simp only [Option.map_some]
      have h1 := (evW_same e).1
      refine ⟨hrd _ h.1, hK _ _ (s.put d v) _ hrd (TmEq.put (a := s) (b := s.tmd st'.tm) ⟨fun t => (congrArg (tmGet · t) h1).trans (ht.tm t), rfl, rfl, rfl, rfl⟩ d v) h.2⟩
    · exact h.elim
  | false =>
    rw [hW] at h
    simp only [cond_false] at h ⊢
    split at h
    · refine h.mono fun q S' hq => ?_
      split at hq
      · exact hK _ _ _ _ hrd (ht.put d _) hq
      · exact hq.elim
    · split at h
      · rename_i v e
        refine hK _ _ _ _ (fun get hg => ?_) (ht.put d v) h
        cases chk
        · exact hrd get hg
        · exact ⟨hrd get hg.1, hg.2⟩
      · exact h.elim

theorem drawS_mono {rd rd' : OwnF → Prop} {d : DOp} {st st' : St} {K K' : (OwnF → Prop) → St → Prop} (hK : KLe K K') (hrd : ∀ get, rd get → rd' get) (ht : TmEq st st') (h : drawS C ℓ rd d st K) : drawS C ℓ rd' d st' K' := by
  unfold drawS at h ⊢
  split at h
  · exact drawX_mono hK hrd ht h
  · rename_i t b _
    rw [← ht.tm t]
    split at h
    · exact ⟨fun e => drawX_mono hK hrd ht (h.1 e), fun e => hK _ _ _ _ hrd (ht.put _ _) (h.2 e)⟩
    · exact h.elim

def starQ (Q : Ex → St → Prop) (e : Ex) (st : St) : Prop := ∃ st', TmEq st' st ∧ Q e st'

theorem wpDraw_mono {Q : Ex → St → Prop} : ∀ (l : List DOp), KLe (fun rd st => wpDraw C ℓ (starQ Q) rd l st) (fun rd st => wpDraw C ℓ (starQ Q) rd l st)
  | [] => fun rd rd' st st' _ ht ⟨s, h1, h2⟩ => ⟨s, h1.trans ht, h2⟩
  | d :: l => fun rd rd' st st' hrd ht h => drawS_mono (wpDraw_mono l) hrd ht h

def gd (g : Option (Nat × Bool)) (tm : List (Nat × D)) : Option Bool := match g with
  | none => some true
  | some (t, b) => skips (tmGet tm t) b
theorem drawS_iff {rd : OwnF → Prop} {d : DOp} {st : St} {K : (OwnF → Prop) → St → Prop} :
    drawS C ℓ rd d st K ↔ ∃ b, gd d.io.grd st.tm = some b ∧ (b = true → drawX C ℓ rd d.chk d.io.dst d.io.op st K) ∧ (b = false → K rd (st.put d.io.dst undefD)) := by
  obtain ⟨idx, chk, dst, grd, op⟩ := d
  cases grd with
  | none =>
    simp only [drawS, gd]
    constructor
    · intro h; exact ⟨true, rfl, fun _ => h, fun e => by simp at e⟩
    · rintro ⟨b, e, h, _⟩; simp at e; exact h e
  | some p =>
    obtain ⟨t, b⟩ := p
    simp only [drawS, gd]
    split
    · rename_i x e
      constructor
      · intro h; exact ⟨x, e, h.1, h.2⟩
      · rintro ⟨y, e2, h1, h2⟩; rw [e] at e2; simp at e2; subst e2; exact ⟨h1, h2⟩
    · rename_i e
      constructor
      · intro h; exact h.elim
      · rintro ⟨y, e2, _⟩; rw [e] at e2; simp at e2

theorem gd_put {g : Option (Nat × Bool)} {st : St} {d : Option Nat} {v : D} {op : IOp} {e : Option Nat} (h : ∀ t, d = some t → t ∉ IOper.looks ⟨e, g, op⟩) : gd g (st.put d v).tm = gd g st.tm := by
  unfold gd
  split
  · rfl
  · rename_i t b
    rw [put_tm]
    intro e2
    exact h t e2 (by simp [IOper.looks])
theorem gd_tm {g : Option (Nat × Bool)} {a b : St} (h : ∀ t, tmGet a.tm t = tmGet b.tm t) : gd g a.tm = gd g b.tm := by
  unfold gd; split
  · rfl
  · rw [h]

/-- An operation that reads is put behind another one. -/
theorem swap {rd : OwnF → Prop} {x i : DOp} {st : St} {K K' : (OwnF → Prop) → St → Prop} (hK : KLe K K') (hap : apart x.io i.io = true) (hch : (!isW i.io.op || x.chk) = true)
    (h : drawS C ℓ rd x st (fun rd1 st1 => drawS C ℓ rd1 i st1 K)) : drawS C ℓ rd i st (fun rd2 st2 => drawS C ℓ rd2 x st2 K') := by
  obtain ⟨xi, xc, xd, xg, xop⟩ := x
  obtain ⟨ii, ic, di, ig, iop⟩ := i
  simp only [apart, Bool.and_eq_true] at hap
  obtain ⟨⟨hr, h1⟩, h2⟩ := hap
  simp only at hch
  have hx1 : ∀ t, xd = some t → t ∉ IOper.looks ⟨di, ig, iop⟩ ∧ di ≠ some t := by
    intro t e; subst e
    simp only [Bool.and_eq_true, Bool.not_eq_true', List.contains_eq_mem, decide_eq_false_iff_not, bne_iff_ne] at h1
    exact h1
  have hi1 : ∀ t, di = some t → t ∉ IOper.looks ⟨xd, xg, xop⟩ := by
    intro t e; subst e
    simpa using h2
  have hrW : isW xop = false := by
    simp only [IOp.reads, Bool.and_eq_true, Bool.not_eq_true'] at hr; exact hr.2
  have hrc : ∀ f a, xop ≠ .call f a := by
    intro f a e; subst e; simp [IOp.reads, IOp.plain] at hr
  -- what x does: a value is put
  have hx : ∀ (rd0 : OwnF → Prop) (s : St) (L : (OwnF → Prop) → St → Prop), drawX C ℓ rd0 xc xd xop s L ↔ ∃ v, evR s.get (s.val C.G) xop = some v ∧ L (bif xc then (fun get => rd0 get ∧ evR get (s.val C.G) xop = some v) else rd0) (s.put xd v) := by
    intro rd0 s L
    unfold drawX
    rw [hrW]
    simp only [cond_false]
    cases xop with
    | call f a => exact (hrc f a rfl).elim
    | _ =>
      split
      · rename_i v e
        constructor
        · intro h; exact ⟨v, e, h⟩
        · rintro ⟨v', e', h⟩; rw [e] at e'; simp only [Option.some.injEq] at e'; subst e'; exact h
      · rename_i e
        constructor
        · intro h; exact h.elim
        · rintro ⟨v', e', _⟩; rw [e] at e'; simp at e'
  have hiT : ∀ t, xd = some t → t ∉ iop.tmps := fun t e h => (hx1 t e).1 (by simp [IOper.looks, h])
  have hxT : ∀ t, di = some t → t ∉ xop.tmps := fun t e h => hi1 t e (by simp [IOper.looks, h])
  obtain ⟨cx, hcx, hxa, hxb⟩ := drawS_iff.1 h
  simp only at hcx hxa hxb
  -- the value that x puts
  obtain ⟨u, rd1, hu, hrd1, hi⟩ : ∃ (u : D) (rd1 : OwnF → Prop), (cx = true → evR st.get (st.val C.G) xop = some u) ∧ (∀ get, rd1 get → rd get ∧ (cx = true → xc = true → evR get (st.val C.G) xop = some u)) ∧ drawS C ℓ rd1 ⟨ii, ic, di, ig, iop⟩ (st.put xd u) K ∧ (cx = false → u = undefD) := by
    cases cx with
    | true =>
      obtain ⟨u, e, hh⟩ := (hx _ _ _).1 (hxa rfl)
      refine ⟨u, _, fun _ => e, fun get hg => ?_, hh, fun e => by simp at e⟩
      cases xc with
      | true => exact ⟨hg.1, fun _ _ => hg.2⟩
      | false => exact ⟨hg, fun _ e => by simp at e⟩
    | false => exact ⟨undefD, rd, fun e => by simp at e, fun get hg => ⟨hg, fun e => by simp at e⟩, hxb rfl, fun _ => rfl⟩
  obtain ⟨hi, hundef⟩ := hi
  -- x, behind i
  have fin : ∀ (rd2 rdK : OwnF → Prop) (s : St) (v : D), (∀ t, tmGet s.tm t = tmGet st.tm t) → (cx = true → evR s.get (st.val C.G) xop = some u) → (∀ get, rdK get → rd2 get ∧ (cx = true → xc = true → evR get (st.val C.G) xop = some u)) → K rdK ((s.put xd u).put di v) → drawS C ℓ rd2 ⟨xi, xc, xd, xg, xop⟩ (s.put di v) K' := by
    intro rd2 rdK s v htm hev hrd hk
    have hag : Agree ((s.put di v).val C.G) (st.val C.G) xop.tmps := by
      intro y hy
      rw [agree_put C.G s di v xop.tmps hxT y hy, agree_of_tm C.G htm]
    refine drawS_iff.2 ⟨cx, ?_, fun e => ?_, fun e => ?_⟩
    · simp only
      rw [gd_put hi1, gd_tm htm]; exact hcx
    · refine (hx _ _ _).2 ⟨u, by rw [put_get, evR_congr hag]; exact hev e, hK _ _ _ _ (fun get hg => ?_) (TmEq.put_comm s (fun t e => (hx1 t e).2) u v) hk⟩
      obtain ⟨h3, h4⟩ := hrd get hg
      cases xc with
      | true => exact ⟨h3, by rw [evR_congr hag]; exact h4 e rfl⟩
      | false => exact h3
    · rw [hundef e] at hk
      exact hK _ _ _ _ (fun get hg => (hrd get hg).1) (TmEq.put_comm s (fun t e => (hx1 t e).2) undefD v) hk
  obtain ⟨ci, hci, hia, hib⟩ := drawS_iff.1 hi
  simp only at hci hia hib
  rw [gd_put (fun t e => (hx1 t e).1)] at hci
  have hag := agree_put C.G st xd u iop.tmps hiT
  refine drawS_iff.2 ⟨ci, hci, fun e => ?_, fun e => fin rd rd1 st undefD (fun _ => rfl) hu hrd1 (hib e)⟩
  have hX := hia e
  clear hia hib
  simp only
  unfold drawX at hX ⊢
  cases hW : isW iop with
  | true =>
    rw [hW] at hX hch
    simp only [cond_true] at hX ⊢
    rw [evW_congr hag, evW_put] at hX
    split at hX
    · rename_i v s' e
      simp only [Option.map_eq_some_iff, Prod.mk.injEq] at e
      obtain ⟨⟨v2, s2⟩, e1, rfl, rfl⟩ := e
      rw [e1]
      simp only at hX ⊢
      rw [put_get] at hX
      have hxc : xc = true := by simpa using hch
      exact ⟨(hrd1 _ hX.1).1, fin rd rd1 s2 v2 (fun t => by rw [(evW_same e1).1]) (fun e => (hrd1 _ hX.1).2 e hxc) hrd1 hX.2⟩
    · exact hX.elim
  | false =>
    rw [hW] at hX
    simp only [cond_false] at hX ⊢
    split at hX
    · rename_i f a
      have e1 : (st.put xd u).val C.G f = st.val C.G f := hag f (fun t ht => by simp [IOp.tmps, ht])
      have e2 : (a.map fun y => ((st.put xd u).val C.G y).arg) = a.map fun y => (st.val C.G y).arg := List.map_congr_left fun y hy => by
        rw [hag y fun t ht => by simp only [IOp.tmps, List.mem_append, List.mem_flatMap]; exact .inr ⟨y, hy, ht⟩]
      rw [e1, e2] at hX
      refine hX.mono fun q S' hq => ?_
      split at hq
      · exact fin rd rd1 st _ (fun _ => rfl) hu hrd1 hq
      · exact hq.elim
    · rw [put_get, evR_congr hag] at hX
      split at hX
      · rename_i v e
        refine fin _ _ st v (fun _ => rfl) hu (fun get hg => ?_) hX
        cases ic with
        | true =>
          simp only [cond_true] at hg ⊢
          rw [evR_congr hag] at hg
          obtain ⟨h3, h4⟩ := hrd1 get hg.1
          exact ⟨⟨h3, hg.2⟩, h4⟩
        | false => exact hrd1 get hg
      · exact hX.elim

/-- One that is ready is brought to the front. -/
theorem front {Q : Ex → St → Prop} {i : DOp} : ∀ (xs : List DOp) (r : List DOp) (rd : OwnF → Prop) (st : St), (∀ x ∈ xs, apart x.io i.io = true ∧ (!isW i.io.op || x.chk) = true) → wpDraw C ℓ (starQ Q) rd (xs ++ i :: r) st → wpDraw C ℓ (starQ Q) rd (i :: (xs ++ r)) st
  | [], r, rd, st, _, h => h
  | x :: xs, r, rd, st, hx, h => by
    have h' : drawS C ℓ rd x st (fun rd' st' => wpDraw C ℓ (starQ Q) rd' (i :: (xs ++ r)) st') := by
      simp only [List.cons_append, wpDraw] at h
      refine drawS_iff.2 ?_
      obtain ⟨b, h1, h2, h3⟩ := drawS_iff.1 h
      have hk : ∀ rd st, wpDraw C ℓ (starQ Q) rd (xs ++ i :: r) st → wpDraw C ℓ (starQ Q) rd (i :: (xs ++ r)) st := fun rd st => front xs r rd st (fun y hy => hx y (by simp [hy]))
      refine ⟨b, h1, fun e => ?_, fun e => hk _ _ (h3 e)⟩
      have := h2 e
      unfold drawX at this ⊢
      cases hW : isW x.io.op with
      | true =>
        rw [hW] at this
        simp only [cond_true] at this ⊢
        split at this
        · exact ⟨this.1, hk _ _ this.2⟩
        · exact this.elim
      | false =>
        rw [hW] at this
        simp only [cond_false] at this ⊢
        split at this
        · refine this.mono fun q S' hq => ?_
          split at hq
          · exact hk _ _ hq
          · exact hq.elim
        · split at this
          · exact hk _ _ this
          · exact this.elim
    exact swap (wpDraw_mono (xs ++ r)) (hx x (by simp)).1 (hx x (by simp)).2 h'


theorem FR.eqv {M : Mem} {g : OwnF} {w : World} {a b : St} {tm : Array Value} {df : List Deferred} (h : FR C ℓ nt n1 M g w a tm df) (ht : TmEq a b) : FR C ℓ nt n1 M g w b tm df := by
  obtain ⟨h1, h2, h3, h4, h5, h6⟩ := h
  refine ⟨h1, ?_, h3, fun t => by rw [← ht.tm t]; exact h4 t, ?_, h6⟩
  · rw [ht.eq]; exact ⟨h2.own, h2.out, h2.apart, h2.ctr, h2.noctr⟩
  · rw [ht.eq]
    have key : ∀ (l : List (D × List D)) (ds : List Deferred), DR C n1 M g a l ds → DR C n1 M g (a.tmd b.tm) l ds := by
      intro l ds h
      induction h with
      | nil => exact .nil
      | mark q0 q1 q2 q3 q4 _ ih => exact .mark q0 q1 q2 q3 q4 ih
      | real q1 q2 q3 q4 _ ih => exact .real q1 q2 q3 q4 ih
    exact key _ _ h5
theorem Moved.eqv {g g' : OwnF} {st a b : St} (h : Moved g g' ℓ st a) (ht : TmEq a b) : Moved g g' ℓ st b :=
  ⟨h.frame, fun q hq => h.keys q (by rw [ht.own, ht.out]; exact hq)⟩

theorem execW_of {op : IOp} (hp : op.plain = true) {d : Nat} {st st' : St} {v : D} {K : D → St → Prop} {Q : Ex → St → Prop} (he : ev C ℓ d st op = some (v, st')) (hk : K v st') : execW C ℓ d op st K Q := by
  cases op <;> first | (simp [IOp.plain] at hp; done) | (simp only [execW, he]; exact hk)

theorem drawX_read {rd : OwnF → Prop} {chk : Bool} {d : Option Nat} {op : IOp} {st : St} {K : (OwnF → Prop) → St → Prop} (hp : op.plain = true) (hW : isW op = false) (h : drawX C ℓ rd chk d op st K) : ∃ v rd', evR st.get (st.val C.G) op = some v ∧ K rd' (st.put d v) := by
  unfold drawX at h
  rw [hW] at h
  simp only [cond_false] at h
  split at h
  · simp [IOp.plain] at hp
  · split at h
    · rename_i v e; exact ⟨v, _, e, h⟩
    · exact h.elim

/-- Facts of the text of a row. -/
structure Tbl (ops : Array Oper) : Prop where
  lt : ∀ i, i < ops.size → ∀ e ∈ bindsOf ops i, e < i
  hint : ∀ i, i < ops.size → ∀ x, x < ops.size → ((Region.before ops).getD i 0).testBit x = true → ∃ e ∈ bindsOf ops i, e = x ∨ ((Region.before ops).getD e 0).testBit x = true

structure Left (R : DOp → DOp → Prop) (c : Cfg) (nt : Nat) (ops : Array Oper) (listed : Array Bool) (l : List DOp) : Prop where
  op : ∀ d ∈ l, ∃ o, ops[d.idx]? = some o ∧ compOper c ops o = some d.io ∧ ∀ t, o.dst = some t → t < nt
  kind : ∀ d ∈ l, d.io.op.plain = true ∨ ∃ f a, d.io.op = .call f a
  nodup : (l.map (·.idx)).Nodup
  all : ∀ i, i < ops.size → (listed.getD i true = false ↔ i ∈ l.map (·.idx))
  closed : ∀ a x, a < ops.size → x < ops.size → listed.getD a false = true → ((Region.before ops).getD a 0).testBit x = true → listed.getD x false = true
  pairs : l.Pairwise (fun x i => ((Region.before ops).getD i.idx 0).testBit x.idx = true ∨ R x i)
  size : listed.size = ops.size

theorem getD_flip {a : Array Bool} {i : Nat} (h : i < a.size) : a.getD i true = false ↔ a.getD i false = false := by
  simp [Array.getD, h]

theorem bindsOf_mem {ops : Array Oper} {i : Nat} {o : Oper} (ho : ops[i]? = some o) {e : Nat} : e ∈ bindsOf ops i ↔ ∃ x ∈ o.after, Region.binds .any x = true ∧ x.on = e := by
  unfold bindsOf
  rw [ho]
  simp only [List.mem_map, List.mem_filter, Array.mem_toList_iff]
  constructor
  · rintro ⟨x, ⟨h1, h2⟩, h3⟩; exact ⟨x, h1, h2, h3⟩
  · rintro ⟨x, h1, h2, h3⟩; exact ⟨x, ⟨h1, h2⟩, h3⟩

theorem exists_min : ∀ (l : List DOp), l ≠ [] → ∃ d ∈ l, ∀ e ∈ l, d.idx ≤ e.idx
  | [], h => (h rfl).elim
  | [d], _ => ⟨d, by simp, by simp⟩
  | d :: e :: l, _ => by
    obtain ⟨m, h1, h2⟩ := exists_min (e :: l) (by simp)
    by_cases h : d.idx ≤ m.idx
    · exact ⟨d, by simp, fun x hx => by
        rcases List.mem_cons.1 hx with rfl | hx
        · exact Nat.le_refl _
        · exact Nat.le_trans h (h2 x hx)⟩
    · exact ⟨m, by simp only [List.mem_cons] at h1 ⊢; exact .inr h1, fun x hx => by
        rcases List.mem_cons.1 hx with rfl | hx
        · omega
        · exact h2 x hx⟩

theorem Left.inl {R : DOp → DOp → Prop} {ops : Array Oper} {listed : Array Bool} {l : List DOp} (hL : Left R c nt ops listed l) : ∀ d ∈ l, d.idx < ops.size ∧ listed.getD d.idx false = false := by
  intro d hd
  obtain ⟨o, ho, _⟩ := hL.op d hd
  have hlt := (Array.getElem?_eq_some_iff.1 ho).1
  have := (hL.all d.idx hlt).2 (List.mem_map.2 ⟨d, hd, rfl⟩)
  exact ⟨hlt, (getD_flip (by rw [hL.size]; exact hlt)).1 this⟩

/-- One that is ready: what stands before it may be done behind it; what is left. -/
theorem Left.step {R : DOp → DOp → Prop} {ops : Array Oper} (hT : Tbl ops) {listed : Array Bool} {xs r : List DOp} {d : DOp} (hL : Left R c nt ops listed (xs ++ d :: r)) {o : Oper} (ho : ops[d.idx]? = some o) (hedge : ∀ e ∈ o.after, Region.binds .any e = true → listed.getD e.on false = true) :
    (∀ x ∈ xs, R x d) ∧ Left R c nt ops (listed.setIfInBounds d.idx true) (xs ++ r) := by
  have inl := hL.inl
  have hilt := (Array.getElem?_eq_some_iff.1 ho).1
  have hpw := List.pairwise_append.1 hL.pairs
  refine ⟨fun x hx => ?_, ?_⟩
  · rcases hpw.2.2 x hx d (by simp) with hb | hb
    · exfalso
      obtain ⟨hx1, hx2⟩ := inl x (by simp [hx])
      obtain ⟨e, he, hh⟩ := hT.hint d.idx hilt x.idx hx1 hb
      obtain ⟨y, hy1, hy2, hy3⟩ := (bindsOf_mem ho).1 he
      have hel : listed.getD e false = true := by rw [← hy3]; exact hedge y hy1 hy2
      rcases hh with rfl | hh
      · rw [hel] at hx2; simp at hx2
      · have := hL.closed e x.idx (Nat.lt_trans (hT.lt _ hilt e he) hilt) hx1 hel hh
        rw [this] at hx2; simp at hx2
    · exact hb
  · have hsub : ∀ x, x ∈ xs ++ r → x ∈ xs ++ d :: r := fun x hx => by
      simp only [List.mem_append, List.mem_cons] at hx ⊢; rcases hx with hx | hx
      · exact .inl hx
      · exact .inr (.inr hx)
    have hnd := hL.nodup
    simp only [List.map_append, List.map_cons] at hnd
    have hnd2 := List.nodup_append.1 hnd
    have hni : d.idx ∉ (xs ++ r).map (·.idx) := by
      simp only [List.map_append, List.mem_append, not_or]
      refine ⟨fun hx => hnd2.2.2 _ hx _ (by simp) rfl, ?_⟩
      have := List.nodup_cons.1 hnd2.2.1
      exact this.1
    refine ⟨fun x hx => hL.op x (hsub x hx), fun x hx => hL.kind x (hsub x hx), ?_, fun j hj => ?_, fun a x ha hx hal hb => ?_, ?_, by simp [hL.size]⟩
    · simp only [List.map_append]
      exact List.nodup_append.2 ⟨hnd2.1, (List.nodup_cons.1 hnd2.2.1).2, fun a ha b hb => hnd2.2.2 a ha b (by simp only [List.mem_cons]; exact .inr hb)⟩
    · by_cases e : j = d.idx
      · subst e
        constructor
        · intro hh; simp [hL.size, hj] at hh
        · intro hh; exact (hni hh).elim
      · rw [getD_set_ne true (Ne.symm e), hL.all j hj]
        simp only [List.map_append, List.map_cons, List.mem_append, List.mem_cons]
        constructor
        · rintro (hh | hh | hh)
          · exact .inl hh
          · exact (e hh).elim
          · exact .inr hh
        · rintro (hh | hh)
          · exact .inl hh
          · exact .inr (.inr hh)
    · by_cases e : a = d.idx
      · subst e
        obtain ⟨e, he, hh⟩ := hT.hint _ ha x hx hb
        obtain ⟨y, hy1, hy2, hy3⟩ := (bindsOf_mem ho).1 he
        have hel : listed.getD e false = true := by rw [← hy3]; exact hedge y hy1 hy2
        rcases hh with rfl | hh
        · exact getD_set_true hel
        · exact getD_set_true (hL.closed e x (Nat.lt_trans (hT.lt _ ha e he) ha) hx hel hh)
      · rw [getD_set_ne false (Ne.symm e)] at hal
        exact getD_set_true (hL.closed a x ha hx hal hb)
    · refine List.pairwise_append.2 ⟨hpw.1, (List.pairwise_cons.1 hpw.2.1).2, fun x hx y hy => hpw.2.2 x hx y (by simp [hy])⟩

theorem Left.stuck {R : DOp → DOp → Prop} {ops : Array Oper} (hT : Tbl ops) {listed : Array Bool} {l : List DOp} (hL : Left R c nt ops listed l) (hrs : Region.ready .any ops listed = []) : l = [] := by
  rcases Classical.em (l = []) with e | e
  · exact e
  · exfalso
    obtain ⟨d, hd, hmin⟩ := exists_min l e
    obtain ⟨o, ho, _⟩ := hL.op d hd
    have hlt := (Array.getElem?_eq_some_iff.1 ho).1
    have : d.idx ∈ Region.ready .any ops listed := by
      rw [mem_ready]
      refine ⟨(hL.all d.idx hlt).2 (List.mem_map.2 ⟨d, hd, rfl⟩), o, ho, fun x hx hb => ?_⟩
      have hlt2 := hT.lt d.idx hlt x.on ((bindsOf_mem ho).2 ⟨x, hx, hb, rfl⟩)
      have hxs : x.on < ops.size := by omega
      have hnot : ¬ (listed.getD x.on true = false) := by
        intro hh
        obtain ⟨y, hy, hyi⟩ := List.mem_map.1 ((hL.all x.on hxs).1 hh)
        have := hmin y hy
        omega
      have hnot2 : ¬ (listed.getD x.on false = false) := fun hh => hnot ((getD_flip (a := listed) (by rw [hL.size]; exact hxs)).2 hh)
      simpa using hnot2
    rw [hrs] at this; simp at this

abbrev RDraw (x i : DOp) : Prop := apart x.io i.io = true ∧ (!isW i.io.op || x.chk) = true
abbrev RCalm (x i : DOp) : Prop := apart x.io i.io = true ∧ i.io.op.reads = true

/-- A row in whatever order: W: what is told of the rest. -/
theorem any_sound (hc : CfgOk C.P c) {ops : Array Oper} (hT : Tbl ops) {R : DOp → DOp → Prop} {b : Frame} {cs : List Frame} {k : List Item} {Q : Ex → St → Prop} {W : List DOp → St → Prop}
    (hnil : ∀ st, W [] st → starQ Q .normal st)
    (hone : ∀ xs d r st, (∀ x ∈ xs, R x d) → (d.io.op.plain = true ∨ ∃ f a, d.io.op = .call f a) → W (xs ++ d :: r) st → ∃ bb, gd d.io.grd st.tm = some bb ∧ (bb = true → execW C ℓ (d.io.dst.getD 0) d.io.op st (fun v st' => W (xs ++ r) (st'.put d.io.dst v)) (starQ Q)) ∧ (bb = false → W (xs ++ r) (st.put d.io.dst undefD))) :
    ∀ (fuel t : Nat) (listed : Array Bool) (l : List DOp) (M : Mem) (g : OwnF) (w : World) (st : St) (tm : Array Value) (df : List Deferred),
    l.length ≤ fuel → Left R c nt ops listed l → FR C ℓ nt n1 M g w st tm df → W l st → Ends C ℓ nt n1 b cs k M g st (lone (fon b tm df (.inRegion ops (Region.linearise.go .any ops fuel t listed []) :: k)) cs w) (starQ Q) := by
  have done : ∀ (M : Mem) (g : OwnF) (w : World) (st : St) (tm : Array Value) (df : List Deferred), FR C ℓ nt n1 M g w st tm df → W [] st → Ends C ℓ nt n1 b cs k M g st (lone (fon b tm df (.inRegion ops [] :: k)) cs w) (starQ Q) := by
    intro M g w st tm df h hq
    exact ⟨.normal, st, M, g, tm, df, w, hnil st hq, h, .refl M, Moved.refl g ℓ st, .one mv_regionEnd⟩
  intro fuel
  induction fuel with
  | zero =>
    intro t listed l M g w st tm df hl hL h hq
    have : l = [] := by cases l with | nil => rfl | cons => simp at hl
    subst this
    exact done M g w st tm df h hq
  | succ fuel ih =>
    intro t listed l M g w st tm df hl hL h hq
    have hgo : Region.linearise.go .any ops (fuel + 1) t listed [] = match (Region.ready .any ops listed)[t % (Region.ready .any ops listed).length]? with
        | some i => Region.linearise.go .any ops fuel (t / (Region.ready .any ops listed).length) (listed.setIfInBounds i true) [i]
        | none => [] := rfl
    rw [hgo]
    split
    · rename_i i hi
      have hir : i ∈ Region.ready .any ops listed := List.mem_of_getElem? hi
      rw [linearise_go_acc]
      simp only [List.reverse_cons, List.reverse_nil, List.nil_append, List.cons_append]
      rw [mem_ready] at hir
      obtain ⟨hnl, o, ho, hedge⟩ := hir
      have hilt := (Array.getElem?_eq_some_iff.1 ho).1
      obtain ⟨d, hd, hdi⟩ := List.mem_map.1 ((hL.all i hilt).1 hnl)
      obtain ⟨xs, r, rfl⟩ := List.append_of_mem hd
      subst hdi
      obtain ⟨hfr, hL'⟩ := hL.step hT ho hedge
      have hkind := hL.kind d (by simp)
      obtain ⟨bb, hgd, hA, hB⟩ := hone xs d r st hfr hkind hq
      have hlen : (xs ++ r).length ≤ fuel := by simp at hl ⊢; omega
      obtain ⟨o', ho', hco, hdst⟩ := hL.op d (by simp)
      rw [ho] at ho'
      simp only [Option.some.injEq] at ho'; subst ho'
      have rest := fun {M : Mem} {g : OwnF} {w : World} {st : St} {tm : Array Value} {df : List Deferred} => ih (t / (Region.ready .any ops listed).length) _ _ M g w st tm df hlen hL'
      obtain ⟨didx, dchk, ddst, dgrd, dop⟩ := d
      simp only at *
      simp only [compOper, Option.bind_eq_some_iff] at hco
      obtain ⟨op, hcomp, hco⟩ := hco
      have go : dop = op → ddst = o.dst → Region.wanted o (yielded ops tm) = true → bb = true → Ends C ℓ nt n1 b cs k M g st (lone (fon b tm df (.inRegion ops (didx :: Region.linearise.go .any ops fuel (t / (Region.ready .any ops listed).length) (listed.setIfInBounds didx true) []) :: k)) cs w) (starQ Q) := by
        intro e1 e2 hw hbb
        subst e1 e2
        refine exec_sound hc h ho hw hdst hcomp (.inr fun f a e => ?_) (hA hbb) (fun v st' M' g' w' u df' h1 h2 h3 h4 h5 => ?_)
        · rcases hkind with hk | ⟨f', a', hk⟩
          · rw [e] at hk; simp [IOp.plain] at hk
          · rw [e] at hk; simp at hk
        · exact Ends.after (.refl M') (Moved.put g' ℓ st' o.dst v) (rest (h3.put hdst h4) h5)
      split at hco
      · rename_i hg
        simp only [Option.some.injEq, IOper.mk.injEq] at hco
        obtain ⟨e1, e2, e3⟩ := hco
        subst e2
        have : bb = true := by simp [gd] at hgd; exact hgd
        exact go e3.symm e1.symm (by simp [Region.wanted, hg]) this
      · rename_i j want hg
        simp only [Option.map_eq_some_iff, IOper.mk.injEq] at hco
        obtain ⟨tt, htt, e1, e2, e3⟩ := hco
        subst e2
        simp only [gd] at hgd
        have hw := wanted_of h hg htt hgd
        cases hbb : bb with
        | true => subst hbb; exact go e3.symm e1.symm hw rfl
        | false =>
          subst hbb
          subst e1
          exact Ends.after (.refl M) (Moved.put g ℓ st o.dst undefD) (Ends.of_steps (.one (mv_unwanted ho hw)) (rest (h.put hdst (undef_ok M)) (hB rfl)))
    · rename_i hnone
      have hrs : Region.ready .any ops listed = [] := by
        cases e : Region.ready .any ops listed with
        | nil => rfl
        | cons a r =>
          rw [e] at hnone
          have : t % (a :: r).length < (a :: r).length := Nat.mod_lt _ (by simp)
          rw [List.getElem?_eq_getElem this] at hnone
          simp at hnone
      have := hL.stuck hT hrs
      subst this
      exact done M g w st tm df h hq

theorem Ends.star {b : Frame} {cs : List Frame} {k : List Item} {M : Mem} {g : OwnF} {st : St} {m : Machine} {Q : Ex → St → Prop} (h : Ends C ℓ nt n1 b cs k M g st m (starQ Q)) : Ends C ℓ nt n1 b cs k M g st m Q := by
  obtain ⟨e, st', M', g', tm', df', w', ⟨s, h1, h2⟩, h3, h4, h5, h6⟩ := h
  exact ⟨e, s, M', g', tm', df', w', h2, h3.eqv h1.symm, h4, h5.eqv h1.symm, h6⟩

theorem drawn_sound (hc : CfgOk C.P c) {ops : Array Oper} (hT : Tbl ops) {b : Frame} {cs : List Frame} {k : List Item} {Q : Ex → St → Prop} (fuel t : Nat) (listed : Array Bool) (l : List DOp) (M : Mem) (g : OwnF) (w : World) (st : St) (tm : Array Value) (df : List Deferred) (rd : OwnF → Prop)
    (hl : l.length ≤ fuel) (hL : Left RDraw c nt ops listed l) (h : FR C ℓ nt n1 M g w st tm df) (hq : wpDraw C ℓ (starQ Q) rd l st) : Ends C ℓ nt n1 b cs k M g st (lone (fon b tm df (.inRegion ops (Region.linearise.go .any ops fuel t listed []) :: k)) cs w) Q := by
  refine (any_sound hc hT (R := RDraw) (W := fun l st => ∃ rd, wpDraw C ℓ (starQ Q) rd l st) (fun st ⟨rd, h⟩ => h) (fun xs d r st hx hkind ⟨rd, hh⟩ => ?_) fuel t listed l M g w st tm df hl hL h ⟨rd, hq⟩).star
  have hq' := front xs r rd st hx hh
  simp only [wpDraw] at hq'
  obtain ⟨bb, hgd, hA, hB⟩ := drawS_iff.1 hq'
  refine ⟨bb, hgd, fun e => ?_, fun e => ⟨_, hB e⟩⟩
  have hX := hA e
  obtain ⟨didx, dchk, ddst, dgrd, dop⟩ := d
  simp only at *
  cases hW : isW dop with
  | true =>
    unfold drawX at hX
    rw [hW] at hX
    simp only [cond_true] at hX
    split at hX
    · rename_i v st' e
      refine execW_of (v := v) (st' := st') ?_ (by unfold ev; rw [hW]; exact e) ⟨_, hX.2⟩
      rcases hkind with hk | ⟨f', a', hk⟩
      · exact hk
      · rw [hk] at hW; simp [isW] at hW
    · exact hX.elim
  | false =>
    rcases hkind with hk | ⟨f', a', hk⟩
    · obtain ⟨v, rd', e, hw2⟩ := drawX_read hk hW hX
      exact execW_of hk (by unfold ev; rw [hW]; simp only [cond_false, e, Option.map_some]) ⟨rd', hw2⟩
    · subst hk
      simp only [drawX, isW, cond_false] at hX
      simp only [execW, callW]
      refine .inl (hX.mono fun q S' hq => ?_)
      split at hq
      · exact ⟨_, hq⟩
      · exact hq.elim

/-! ### Calm rows -/

theorem Sh.teq {a b st1 : St} (ht : TmEq a b) (h : Sh C ℓ a st1) : Sh C ℓ b st1 := by
  refine ⟨h.1.trans ht.df, fun M g w tv hrs hsr htm => ?_⟩
  have hsr' : SR g ℓ a := by
    have := hsr; rw [ht.eq] at this
    exact ⟨this.own, this.out, this.apart, this.ctr, this.noctr⟩
  obtain ⟨M', g', h1, h2, h3, h4, h5⟩ := h.2 M g w tv hrs hsr' (fun t => by rw [ht.tm t]; exact htm t)
  exact ⟨M', g', h1, h2, h3, ⟨fun q x hq n1 n2 n3 => h4.frame q x hq (by rw [ht.own]; exact n1) (by rw [ht.out]; exact n2) n3, fun q hq => by have := h4.keys q hq; rw [ht.own, ht.out] at this; exact this⟩, h5⟩

theorem execW_teq {d : Nat} {op : IOp} {st st' : St} {K K' : D → St → Prop} {Q Q' : Ex → St → Prop} (ht : TmEq st st') (hK : ∀ v s s', TmEq s s' → K v s → K' v s') (hQ : ∀ d s s', TmEq s s' → Q (.pan d) s → Q' (.pan d) s') (h : execW C ℓ d op st K Q) : execW C ℓ d op st' K' Q' := by
  have hv := ht.val C.G
  unfold execW at h ⊢
  split at h
  · rename_i f a
    rcases h with h | ⟨st1, h1, S, h2, h3⟩
    · rw [hv] at h
      refine .inl (h.mono fun r S' hr => ?_)
      cases r with
      | ret v => exact hK v _ _ ht hr
      | pan e => exact hQ e _ _ ht hr
    · refine .inr ⟨st1, h1.teq ht, S, h2, h3.mono fun r S' hr => ?_⟩
      cases r with
      | ret v => intro hn; obtain ⟨o, o', a, b⟩ := hr hn; exact ⟨o, o', a, hK _ _ _ (.refl _) b⟩
      | pan e => intro hn; obtain ⟨o, o', a, b⟩ := hr hn; exact ⟨o, o', a, hQ _ _ _ (.refl _) b⟩
  · rw [hv] at h; exact ⟨h.1, hQ _ _ _ ht h.2⟩
  · rw [hv] at h
    unfold nextW at h ⊢
    rw [← ht.get]
    split at h
    · split at h
      · refine ⟨h.1, fun e => hK _ _ _ ht (h.2.1 e), fun e i k d hi hn => hK _ _ _ ?_ (h.2.2 e i k d hi hn)⟩
        rw [ht.eq, tmd_upd]
        exact ⟨fun t => by
          have : ∀ (s : St) (r : Ref) (b : Blk), (s.upd r b).tm = s.tm := by intro s r b; unfold St.upd; split <;> rfl
          rw [this]; exact ht.tm t, rfl, rfl, rfl, rfl⟩
      · exact h.elim
    · exact h.elim
  · rename_i f a
    rw [hv] at h
    refine ⟨h.1, hK _ _ _ ?_ h.2⟩
    exact ⟨ht.tm, ht.own, ht.out, ht.next, by rw [ht.df]⟩
  · have he : (match ev C ℓ d st op with | some (v, s) => K v s | none => False) → (match ev C ℓ d st' op with | some (v, s) => K' v s | none => False) := by
      intro h
      unfold ev at h ⊢
      rw [← hv, ← ht.get]
      cases hW : isW op with
      | true =>
        rw [hW] at h
        simp only [cond_true] at h ⊢
        rw [ht.eq, evW_tmd]
        cases e : evW ℓ d st (st.val C.G) op with
        | none => rw [e] at h; exact h.elim
        | some p =>
          obtain ⟨v, s⟩ := p
          rw [e] at h
          simp only [Option.map_some] at h ⊢
          exact hK v s _ ⟨fun t => by rw [(evW_same e).1]; exact ht.tm t, rfl, rfl, rfl, rfl⟩ h
      | false =>
        rw [hW] at h
        simp only [cond_false] at h ⊢
        cases e : evR st.get (st.val C.G) op with
        | none => rw [e] at h; exact h.elim
        | some v => rw [e] at h; exact hK v st st' ht h
    exact he h

theorem wpOps_gd {d : Option Nat} {g : Option (Nat × Bool)} {op : IOp} {r : List IOper} {st : St} {Q : Ex → St → Prop} :
    wpOps C ℓ (⟨d, g, op⟩ :: r) st Q ↔ ∃ b, gd g st.tm = some b ∧ (b = true → execW C ℓ (d.getD 0) op st (fun v st' => wpOps C ℓ r (st'.put d v) Q) Q) ∧ (b = false → wpOps C ℓ r (st.put d undefD) Q) := by
  cases g with
  | none =>
    simp only [wpOps, gd]
    constructor
    · intro h; exact ⟨true, rfl, fun _ => h, fun e => by simp at e⟩
    · rintro ⟨b, e, h, _⟩; simp at e; exact h e
  | some p =>
    obtain ⟨t, b⟩ := p
    simp only [wpOps, gd]
    split
    · rename_i x e
      constructor
      · intro h; exact ⟨x, e, h.1, h.2⟩
      · rintro ⟨y, e2, h1, h2⟩; rw [e] at e2; simp at e2; subst e2; exact ⟨h1, h2⟩
    · rename_i e
      constructor
      · intro h; exact h.elim
      · rintro ⟨y, e2, _⟩; rw [e] at e2; simp at e2

theorem starQ_teq {Q : Ex → St → Prop} {e : Ex} {s s' : St} (ht : TmEq s s') (h : starQ Q e s) : starQ Q e s' := by
  obtain ⟨a, h1, h2⟩ := h; exact ⟨a, h1.trans ht, h2⟩

theorem wpOps_teq {Q : Ex → St → Prop} : ∀ (l : List IOper) {st st' : St}, TmEq st st' → wpOps C ℓ l st (starQ Q) → wpOps C ℓ l st' (starQ Q)
  | [], st, st', ht, h => starQ_teq ht h
  | ⟨d, g, op⟩ :: l, st, st', ht, h => by
    obtain ⟨b, h1, h2, h3⟩ := wpOps_gd.1 h
    refine wpOps_gd.2 ⟨b, by rw [← gd_tm ht.tm]; exact h1, fun e => ?_, fun e => wpOps_teq l (ht.put _ _) (h3 e)⟩
    exact execW_teq ht (fun v s s' hs hh => wpOps_teq l (hs.put _ _) hh) (fun d s s' hs hh => starQ_teq hs hh) (h2 e)

theorem execW_read {op : IOp} (hr : op.reads = true) {d : Nat} {st : St} {K : D → St → Prop} {Q : Ex → St → Prop} : execW C ℓ d op st K Q ↔ ∃ v, evR st.get (st.val C.G) op = some v ∧ K v st := by
  simp only [IOp.reads, Bool.and_eq_true, Bool.not_eq_true'] at hr
  obtain ⟨hp, hW⟩ := hr
  have he : ev C ℓ d st op = (evR st.get (st.val C.G) op).map (·, st) := by unfold ev; rw [hW]; rfl
  have hx : execW C ℓ d op st K Q ↔ (match ev C ℓ d st op with | some (v, s) => K v s | none => False) := by
    cases op <;> first | (simp [IOp.plain] at hp; done) | exact Iff.rfl
  rw [hx, he]
  cases evR st.get (st.val C.G) op with
  | none => simp
  | some v => simp

theorem swapO {x i : IOper} {r : List IOper} {st : St} {Q : Ex → St → Prop} (hap : apart x i = true) (hri : i.op.reads = true) (h : wpOps C ℓ (x :: i :: r) st (starQ Q)) : wpOps C ℓ (i :: x :: r) st (starQ Q) := by
  obtain ⟨xd, xg, xop⟩ := x
  obtain ⟨di, ig, iop⟩ := i
  simp only [apart, Bool.and_eq_true] at hap
  obtain ⟨⟨hr, h1⟩, h2⟩ := hap
  simp only at hr hri
  have hx1 : ∀ t, xd = some t → t ∉ IOper.looks ⟨di, ig, iop⟩ ∧ di ≠ some t := by
    intro t e; subst e
    simp only [Bool.and_eq_true, Bool.not_eq_true', List.contains_eq_mem, decide_eq_false_iff_not, bne_iff_ne] at h1
    exact h1
  have hi1 : ∀ t, di = some t → t ∉ IOper.looks ⟨xd, xg, xop⟩ := by
    intro t e; subst e
    simpa using h2
  have hiT : ∀ t, xd = some t → t ∉ iop.tmps := fun t e h => (hx1 t e).1 (by simp [IOper.looks, h])
  have hxT : ∀ t, di = some t → t ∉ xop.tmps := fun t e h => hi1 t e (by simp [IOper.looks, h])
  -- an operation puts a value
  have puts : ∀ (d : Option Nat) (g : Option (Nat × Bool)) (op : IOp) (l : List IOper) (s : St), op.reads = true → (wpOps C ℓ (⟨d, g, op⟩ :: l) s (starQ Q) ↔ ∃ b v, gd g s.tm = some b ∧ (b = true → evR s.get (s.val C.G) op = some v) ∧ (b = false → v = undefD) ∧ wpOps C ℓ l (s.put d v) (starQ Q)) := by
    intro d g op l s hop
    rw [wpOps_gd]
    constructor
    · rintro ⟨b, e1, e2, e3⟩
      cases b with
      | true => obtain ⟨v, a1, a2⟩ := (execW_read hop).1 (e2 rfl); exact ⟨true, v, e1, fun _ => a1, fun e => by simp at e, a2⟩
      | false => exact ⟨false, undefD, e1, fun e => by simp at e, fun _ => rfl, e3 rfl⟩
    · rintro ⟨b, v, e1, e2, e3, e4⟩
      refine ⟨b, e1, fun e => (execW_read hop).2 ⟨v, e2 e, e4⟩, fun e => ?_⟩
      rw [e3 e] at e4; exact e4
  obtain ⟨bx, vx, a1, a2, a3, hx⟩ := (puts _ _ _ _ _ hr).1 h
  obtain ⟨bi, vi, c1, c2, c3, hi⟩ := (puts _ _ _ _ _ hri).1 hx
  refine (puts _ _ _ _ _ hri).2 ⟨bi, vi, ?_, fun e => ?_, c3, (puts _ _ _ _ _ hr).2 ⟨bx, vx, ?_, fun e => ?_, a3, wpOps_teq r (TmEq.put_comm st (fun t e => (hx1 t e).2) vx vi) hi⟩⟩
  · rw [← c1]; exact (gd_put (fun t e => (hx1 t e).1)).symm
  · have := c2 e
    rw [put_get, evR_congr (agree_put C.G st xd vx iop.tmps hiT)] at this
    exact this
  · rw [← a1]; exact gd_put hi1
  · rw [put_get, evR_congr (agree_put C.G st di vi xop.tmps hxT)]; exact a2 e

theorem frontO {Q : Ex → St → Prop} {i : DOp} : ∀ (xs r : List DOp) (st : St), (∀ x ∈ xs, RCalm x i) → wpOps C ℓ ((xs ++ i :: r).map (·.io)) st (starQ Q) → wpOps C ℓ ((i :: (xs ++ r)).map (·.io)) st (starQ Q)
  | [], r, st, _, h => h
  | x :: xs, r, st, hx, h => by
    have h1 := hx x (by simp)
    simp only [List.cons_append, List.map_cons] at h ⊢
    refine swapO h1.1 h1.2 ?_
    have h11 := h1.1
    generalize x.io = xio at h h11 ⊢
    obtain ⟨xd, xg, xop⟩ := xio
    obtain ⟨b, e1, e2, e3⟩ := wpOps_gd.1 h
    have hk : ∀ st, wpOps C ℓ ((xs ++ i :: r).map (·.io)) st (starQ Q) → wpOps C ℓ (i.io :: (xs ++ r).map (·.io)) st (starQ Q) := fun st hh => frontO xs r st (fun y hy => hx y (by simp [hy])) hh
    have hrx : xop.reads = true := by
      simp only [apart, Bool.and_eq_true] at h11
      exact h11.1.1
    refine wpOps_gd.2 ⟨b, e1, fun e => ?_, fun e => hk _ (e3 e)⟩
    obtain ⟨v, a1, a2⟩ := (execW_read hrx).1 (e2 e)
    exact (execW_read hrx).2 ⟨v, a1, hk _ a2⟩

theorem calm_sound (hc : CfgOk C.P c) {ops : Array Oper} (hT : Tbl ops) {b : Frame} {cs : List Frame} {k : List Item} {Q : Ex → St → Prop} (fuel t : Nat) (listed : Array Bool) (l : List DOp) (M : Mem) (g : OwnF) (w : World) (st : St) (tm : Array Value) (df : List Deferred)
    (hl : l.length ≤ fuel) (hL : Left RCalm c nt ops listed l) (h : FR C ℓ nt n1 M g w st tm df) (hq : wpOps C ℓ (l.map (·.io)) st (starQ Q)) : Ends C ℓ nt n1 b cs k M g st (lone (fon b tm df (.inRegion ops (Region.linearise.go .any ops fuel t listed []) :: k)) cs w) Q := by
  refine (any_sound hc hT (R := RCalm) (W := fun l st => wpOps C ℓ (l.map (·.io)) st (starQ Q)) (fun st h => h) (fun xs d r st hx hkind hh => ?_) fuel t listed l M g w st tm df hl hL h hq).star
  have hq' := frontO xs r st hx hh
  simp only [List.map_cons] at hq'
  obtain ⟨didx, dchk, ddst, dgrd, dop⟩ := d
  exact wpOps_gd.1 hq'

theorem pairsOk_pw {tbl : Array Nat} : ∀ {l : List DOp}, pairsOk tbl l = true → l.Pairwise (fun x i => (tbl.getD i.idx 0).testBit x.idx = true ∨ (apart x.io i.io = true ∧ (!isW i.io.op || x.chk) = true))
  | [], _ => .nil
  | x :: l, h => by
    simp only [pairsOk, Bool.and_eq_true, List.all_eq_true] at h
    refine List.pairwise_cons.2 ⟨fun i hi => ?_, pairsOk_pw h.2⟩
    have := h.1 i hi
    simpa only [Bool.or_eq_true, Bool.and_eq_true] using this

theorem mapM_at {α β : Type} {f : α → Option β} : ∀ {l : List α} {r : List β}, l.mapM f = some r → l.length = r.length ∧ ∀ (i : Nat) a, l[i]? = some a → ∃ b, r[i]? = some b ∧ f a = some b
  | [], r, h => by simp at h; subst h; simp
  | a :: l, r, h => by
    simp only [List.mapM_cons, Option.bind_eq_bind, Option.bind_eq_some_iff] at h
    obtain ⟨b, h1, r', h2, h3⟩ := h
    simp at h3; subst h3
    obtain ⟨h4, h5⟩ := mapM_at h2
    refine ⟨by simp [h4], fun i x hx => ?_⟩
    cases i with
    | zero => simp at hx; subst hx; exact ⟨b, by simp, h1⟩
    | succ i => simpa using h5 i x (by simpa using hx)

theorem nodup_of_perm {n : Nat} {l : List Nat} (h : permOk n l = true) : l.Nodup ∧ ∀ i, i ∈ l ↔ i < n := by
  simp only [permOk, Bool.and_eq_true, beq_iff_eq, List.all_eq_true, List.mem_range, List.contains_eq_mem, decide_eq_true_eq] at h
  obtain ⟨h1, h2⟩ := h
  have key : ∀ (n : Nat) (l : List Nat), l.length = n → (∀ i, i < n → i ∈ l) → l.Nodup ∧ ∀ i, i ∈ l → i < n := by
    intro n
    induction n with
    | zero => intro l h _; have : l = [] := by cases l with | nil => rfl | cons => simp at h
              subst this; simp
    | succ n ih =>
      intro l hl hall
      have hn := hall n (Nat.lt_succ_self n)
      obtain ⟨xs, r, rfl⟩ := List.append_of_mem hn
      have hlen : (xs ++ r).length = n := by simp at hl ⊢; omega
      obtain ⟨a1, a2⟩ := ih (xs ++ r) hlen (fun i hi => by
        have := hall i (by omega)
        simp only [List.mem_append, List.mem_cons] at this ⊢
        rcases this with h | h | h
        · exact .inl h
        · omega
        · exact .inr h)
      have hnn : n ∉ xs ++ r := fun h => by have := a2 n h; omega
      simp only [List.mem_append, not_or] at hnn
      obtain ⟨b1, b2, b3⟩ := List.nodup_append.1 a1
      refine ⟨List.nodup_append.2 ⟨b1, List.nodup_cons.2 ⟨hnn.2, b2⟩, fun a ha b hb => ?_⟩, fun i hi => ?_⟩
      · rcases List.mem_cons.1 hb with rfl | hb
        · intro e; subst e; exact hnn.1 ha
        · exact b3 a ha b hb
      · simp only [List.mem_append, List.mem_cons] at hi
        rcases hi with h | h | h
        · have := a2 i (by simp [h]); omega
        · omega
        · have := a2 i (by simp [h]); omega
  obtain ⟨h3, h4⟩ := key n l h1 h2
  exact ⟨h3, fun i => ⟨h4 i, h2 i⟩⟩

theorem mv_draw {P : Program} {b : Frame} {tm : Array Value} {df : List Deferred} {k : List Item} {cs : List Frame} {w : World} {id : Nat} {ops : Array Oper} (h : P.follows .mixedOrders = true) :
    ∃ t, step P (lone (fon b tm df (.code (.region id ops true) :: k)) cs w) = .next (lone (fon b tm df (.inRegion ops (Region.linearise .any ops t) :: k)) cs { w with drawn := w.drawn + 1 }) :=
  ⟨w.tape w.drawn (.order b.fn id), step_lone_go (by
    have hs : ∀ t, Region.schedule (P.follows .mixedOrders) ops t = Region.linearise .any ops t := by intro t; simp [Region.schedule, h]
    simp [stepG, stepG.exec, fon, choose, Sem.run, Question.forced, Question.cut, hs])⟩

theorem calm_pw {tbl : Array Nat} : ∀ {l : List DOp}, calmOk.go tbl l = true → l.Pairwise (fun x i => (tbl.getD i.idx 0).testBit x.idx = true ∨ RCalm x i)
  | [], _ => .nil
  | x :: l, h => by
    simp only [calmOk.go, Bool.and_eq_true, List.all_eq_true] at h
    refine List.pairwise_cons.2 ⟨fun i hi => ?_, calm_pw h.2⟩
    have := h.1 i hi
    simpa only [Bool.or_eq_true, Bool.and_eq_true] using this

theorem left_of {R : DOp → DOp → Prop} {ops : Array Oper} {ios : List IOper} (hm : ops.toList.mapM (compOper c ops) = some ios) {l2 : List DOp} (hl2 : ∀ d ∈ l2, d.io = (ios[d.idx]?).getD default) (hperm : permOk ops.size (l2.map (·.idx)) = true) (hf : ioBnd nt (l2.map (·.io)) = true)
    (hkind : ∀ d ∈ l2, d.io.op.plain = true ∨ (match d.io.op with | .call _ _ => true | _ => false) = true) (hpw : l2.Pairwise (fun x i => ((Region.before ops).getD i.idx 0).testBit x.idx = true ∨ R x i)) : Left R c nt ops (Array.replicate ops.size false) l2 := by
  obtain ⟨hnd, hmem⟩ := nodup_of_perm hperm
  obtain ⟨hml, hmi⟩ := mapM_at hm
  refine ⟨fun d hd => ?_, fun d hd => ?_, hnd, fun i hi => ?_, fun a x ha hx hal _ => ?_, hpw, by simp⟩
  · have hlt := (hmem d.idx).1 (List.mem_map.2 ⟨d, hd, rfl⟩)
    have ho : ops[d.idx]? = some ops[d.idx] := Array.getElem?_eq_getElem hlt
    obtain ⟨io, h1, h2⟩ := hmi d.idx ops[d.idx] (by rw [Array.getElem?_toList]; exact ho)
    have hdio : d.io = io := by rw [hl2 d hd, h1]; rfl
    refine ⟨ops[d.idx], ho, by rw [hdio]; exact h2, fun t ht => ?_⟩
    have hdst : d.io.dst = ops[d.idx].dst := by
      rw [hdio]
      simp only [compOper, Option.bind_eq_some_iff] at h2
      obtain ⟨op, _, h2⟩ := h2
      split at h2
      · simp only [Option.some.injEq] at h2; subst h2; rfl
      · simp only [Option.map_eq_some_iff] at h2
        obtain ⟨_, _, rfl⟩ := h2; rfl
    have := List.all_eq_true.1 hf d.io (List.mem_map.2 ⟨d, hd, rfl⟩)
    rw [hdst, ht] at this
    simpa using this
  · rcases hkind d hd with hk | hk
    · exact .inl hk
    · right
      split at hk
      · rename_i f a e; exact ⟨f, a, e⟩
      · simp at hk
  · simp only [hmem]
    simp [hi]
  · simp [Array.getD, ha] at hal

theorem tbl_of {ops : Array Oper} (htbl : tblOk ops (Region.before ops) = true) : Tbl ops := by
  simp only [tblOk, List.all_eq_true, List.mem_range, Bool.and_eq_true, decide_eq_true_eq, Bool.or_eq_true, Bool.not_eq_true', List.any_eq_true, beq_iff_eq] at htbl
  refine ⟨fun i hi => (htbl i hi).1, fun i hi x hx hbit => ?_⟩
  rcases (htbl i hi).2 x hx with h | ⟨e, h1, h2⟩
  · rw [h] at hbit; simp at hbit
  · exact ⟨e, h1, h2⟩

theorem sound_draw {id : Nat} {ops : Array Oper} (hc0 : CfgOk C.P c) (hmix : C.P.follows .mixedOrders = true) : Sound C c nt (.region id ops true) := by
  intro ir hc hf ℓ n1 b cs k M g w st tm df Q hb hbf h hq
  obtain ⟨t, hstep⟩ := mv_draw (P := C.P) (b := b) (tm := tm) (df := df) (k := k) (cs := cs) (w := w) (id := id) (ops := ops) hmix
  have hfr : FR C ℓ nt n1 M g { w with drawn := w.drawn + 1 } st tm df := ⟨h.rs.drew _, h.sr, h.sz, h.tm, h.df, h.n1⟩
  simp only [comp, if_true, drawIR, Option.bind_eq_some_iff] at hc
  obtain ⟨ios, hm, hc⟩ := hc
  generalize hl0 : (orderOf (Region.before ops) (fun i => match ios[i]? with | some io => io.op.reads | none => false) ops.size (List.range ops.size)).map (fun i => (⟨i, chkOf (Region.before ops) ios i, (ios[i]?).getD default⟩ : DOp)) = l0 at hc
  have hio : ∀ d ∈ l0, d.io = (ios[d.idx]?).getD default := by
    intro d hd
    rw [← hl0] at hd
    obtain ⟨i, _, rfl⟩ := List.mem_map.1 hd
    rfl
  split at hc
  · rename_i hok
    simp only [Option.some.injEq] at hc
    cases ir <;> simp only [IR.strip, reduceCtorEq] at hc
    rename_i l2
    simp only [IR.ops.injEq] at hc
    subst hc
    simp only [calmOk, Bool.and_eq_true, List.all_eq_true, Bool.or_eq_true] at hok
    obtain ⟨⟨⟨hperm, htbl⟩, hpairs⟩, hkind⟩ := hok
    simp only [IR.fits] at hf
    simp only [wp] at hq
    have hL : Left RCalm c nt ops (Array.replicate ops.size false) l0 := left_of hm hio hperm hf hkind (calm_pw hpairs)
    have hstar : wpOps C ℓ (l0.map (·.io)) st (starQ Q) := by
      have key : ∀ (l : List IOper) (st : St), wpOps C ℓ l st Q → wpOps C ℓ l st (starQ Q) := by
        intro l
        induction l with
        | nil => intro st h; exact ⟨st, .refl _, h⟩
        | cons d l ih =>
          intro st h
          obtain ⟨dd, dg, dop⟩ := d
          obtain ⟨b, h1, h2, h3⟩ := wpOps_gd.1 h
          refine wpOps_gd.2 ⟨b, h1, fun e => ?_, fun e => ih _ (h3 e)⟩
          have := h2 e
          unfold execW at this ⊢
          split at this
          · rcases this with h | ⟨st1, a1, S, a2, a3⟩
            · refine .inl (h.mono fun r S' hr => ?_)
              cases r with
              | ret v => exact ih _ hr
              | pan e => exact ⟨_, .refl _, hr⟩
            · refine .inr ⟨st1, a1, S, a2, a3.mono fun r S' hr => ?_⟩
              cases r with
              | ret v => intro hn; obtain ⟨o, o', a, b⟩ := hr hn; exact ⟨o, o', a, ih _ b⟩
              | pan e => intro hn; obtain ⟨o, o', a, b⟩ := hr hn; exact ⟨o, o', a, _, .refl _, b⟩
          · exact ⟨this.1, _, .refl _, this.2⟩
          · unfold nextW at this ⊢
            split at this
            · split at this
              · exact ⟨this.1, fun e => ih _ (this.2.1 e), fun e i k d hi hn => ih _ (this.2.2 e i k d hi hn)⟩
              · exact this.elim
            · exact this.elim
          · exact ⟨this.1, ih _ this.2⟩
          · split at this
            · exact ih _ this
            · exact this.elim
      exact key _ _ hq
    have hlen : l0.length ≤ ops.size := by
      simp only [permOk, Bool.and_eq_true, beq_iff_eq, List.length_map] at hperm
      omega
    exact Ends.of_steps (.one hstep) (calm_sound hc0 (tbl_of htbl) ops.size t _ l0 M g _ st tm df hlen hL hfr hstar)
  split at hc
  case isFalse => simp at hc
  rename_i hok
  simp only [Option.some.injEq] at hc
  cases ir <;> simp only [IR.strip, reduceCtorEq] at hc
  rename_i l2
  simp only [IR.draw.injEq] at hc
  subst hc
  simp only [drawOk, Bool.and_eq_true, List.all_eq_true, Bool.or_eq_true] at hok
  obtain ⟨⟨⟨hperm, htbl⟩, hpairs⟩, hkind⟩ := hok
  simp only [IR.fits] at hf
  simp only [wp] at hq
  have hL : Left RDraw c nt ops (Array.replicate ops.size false) l0 := left_of hm hio hperm hf hkind (pairsOk_pw hpairs)
  have hstar : wpDraw C ℓ (starQ Q) (fun _ => True) l0 st := by
    have key : ∀ (l : List DOp) (rd : OwnF → Prop) (st : St), wpDraw C ℓ Q rd l st → wpDraw C ℓ (starQ Q) rd l st := by
      intro l
      induction l with
      | nil => intro rd st h; exact ⟨st, .refl _, h⟩
      | cons d l ih =>
        intro rd st h
        simp only [wpDraw] at h ⊢
        obtain ⟨b, h1, h2, h3⟩ := drawS_iff.1 h
        refine drawS_iff.2 ⟨b, h1, fun e => ?_, fun e => ih _ _ (h3 e)⟩
        have := h2 e
        unfold drawX at this ⊢
        cases hW : isW d.io.op with
        | true =>
          rw [hW] at this
          simp only [cond_true] at this ⊢
          split at this
          · exact ⟨this.1, ih _ _ this.2⟩
          · exact this.elim
        | false =>
          rw [hW] at this
          simp only [cond_false] at this ⊢
          split at this
          · refine this.mono fun q S' hq => ?_
            split at hq
            · exact ih _ _ hq
            · exact hq.elim
          · split at this
            · exact ih _ _ this
            · exact this.elim
    exact key _ _ _ hq
  have hlen : l0.length ≤ ops.size := by
    simp only [permOk, Bool.and_eq_true, beq_iff_eq, List.length_map] at hperm
    omega
  exact Ends.of_steps (.one hstep) (drawn_sound hc0 (tbl_of htbl) ops.size t _ l0 M g _ st tm df _ hlen hL hfr hstar)

/-- All code that the small form reaches. -/
theorem sound_all (hc : CfgOk C.P c) (hmix : C.P.follows .mixedOrders = true) : ∀ code : Code, Sound C c nt code
  | .skip => sound_skip
  | .ret => sound_ret
  | .exit _ => sound_exit
  | .seq a b => sound_seq (sound_all hc hmix a) (sound_all hc hmix b)
  | .cond _ a b => sound_cond (sound_all hc hmix a) (sound_all hc hmix b)
  | .block _ a => sound_block (sound_all hc hmix a)
  | .loop a => sound_loop (sound_all hc hmix a)
  | .rangeFunc _ _ a b => sound_rangef (sound_all hc hmix a) (sound_all hc hmix b)
  | .region _ _ true => sound_draw hc hmix
  | .region _ _ false => sound_region hc
  | .label _ | .scope _ | .goto _ | .refuse _ => by
    intro ir h
    simp [comp] at h


/-- A function of the program, and its small form. -/
structure FnOk (P : Program) (c : Cfg) (f : Nat) (ir : FnIR) : Prop where
  ok : ∃ fn body, P.funcs[f]? = some fn ∧ (fn.name == "runtime.NumGoroutine") = false ∧ fn.body = some body ∧ comp c body = some ir.body.strip ∧ ir.body.fits ir.nt = true ∧ fn.results.toList.map (compRV c) = ir.res ∧ fn.ntmps = ir.nt

def FnIR.strip (ir : FnIR) : FnIR := ⟨ir.np, ir.nt, ir.res, ir.body.strip⟩
theorem FnOk.of {P : Program} {c : Cfg} {f : Nat} {fn : Func} {ir : FnIR} (h1 : P.funcs[f]? = some fn) (h2 : (fn.name == "runtime.NumGoroutine") = false) (h3 : compFn c fn = some ir.strip) (h4 : ir.body.fits ir.nt = true) : FnOk P c f ir := by
  simp only [compFn, Option.map_eq_some_iff, Option.bind_eq_some_iff] at h3
  obtain ⟨b, ⟨body, h5, h6⟩, h7⟩ := h3
  simp only [FnIR.strip, FnIR.mk.injEq] at h7
  obtain ⟨_, h8, h9, h10⟩ := h7
  exact ⟨fn, body, h1, h2, h5, by rw [h6, h10], h4, h9, h8⟩

/-- The program that the layer speaks of. -/
structure Good (C : Ctx) (c : Cfg) : Prop where
  cfg : CfgOk C.P c
  mix : C.P.follows .mixedOrders = true

theorem callI (hg : Good C c) {f : Nat} {ir : FnIR} (hf : FnOk C.P c f ir) {fv : D} {first caps args : List D} (hfv : fnParts fv = some (f, first, caps)) (hlen : (first ++ args ++ caps).length ≤ ir.nt) {S : OwnF} {Q : Res → OwnF → Prop}
    (hwp : ∀ ℓ, (∀ s i, S (.v ℓ s i) = none) → S (.ctr ℓ) = none → wp C ℓ ir.body ⟨argSlots 0 (first ++ args ++ caps), [], S, 0, []⟩ (fnK ir.res Q)) : CallV C fv args S Q := by
  obtain ⟨fn, body, h1, h2, h3, h4, h5, h6, h7⟩ := hf.ok
  refine callF hg.cfg h1 h2 h3 (sound_all hg.cfg hg.mix body) h4 (by rw [h7]; exact h5) hfv (by rw [h7]; exact hlen) ?_
  rw [h6]; exact hwp

end
end Go.Abs

/- The program's functions in the small form. Printed by a program (mkcode.py). No conditions. -/
namespace Go.Abs
open Go.Proofs
theorem gosem_cut_init_ok : FnOk Try.prog (cfg []) gosem_cut_init_id gosem_cut_init := .of Try.func2 (by kernel_rfl) (by kernel_rfl) (by kernel_rfl)
theorem law53_AccountsSpec_ok : FnOk Try.prog (cfg []) law53_AccountsSpec_id law53_AccountsSpec := .of Try.func3 (by kernel_rfl) (by kernel_rfl) (by kernel_rfl)
theorem law53_AccountsHistorySpec_ok : FnOk Try.prog (cfg []) law53_AccountsHistorySpec_id law53_AccountsHistorySpec := .of Try.func4 (by kernel_rfl) (by kernel_rfl) (by kernel_rfl)
theorem law53_AccountsKnown_ok : FnOk Try.prog (cfg []) law53_AccountsKnown_id law53_AccountsKnown := .of Try.func5 (by kernel_rfl) (by kernel_rfl) (by kernel_rfl)
theorem law53_AccountsSteps_ok : FnOk Try.prog (cfg []) law53_AccountsSteps_id law53_AccountsSteps := .of Try.func6 (by kernel_rfl) (by kernel_rfl) (by kernel_rfl)
theorem law53_AccountsKinds_ok : FnOk Try.prog (cfg [40]) law53_AccountsKinds_id law53_AccountsKinds := .of Try.func7 (by kernel_rfl) (by kernel_rfl) (by kernel_rfl)
theorem law53_AccountsNever_ok : FnOk Try.prog (cfg []) law53_AccountsNever_id law53_AccountsNever := .of Try.func8 (by kernel_rfl) (by kernel_rfl) (by kernel_rfl)
theorem law53_sane_ok : FnOk Try.prog (cfg []) law53_sane_id law53_sane := .of Try.func9 (by kernel_rfl) (by kernel_rfl) (by kernel_rfl)
theorem ref53_Few_ok : FnOk Try.prog (cfg []) ref53_Few_id ref53_Few := .of Try.func10 (by kernel_rfl) (by kernel_rfl) (by kernel_rfl)
theorem accounts_Spent_ok : FnOk Try.prog (cfg []) accounts_Spent_id accounts_Spent := .of Try.func11 (by kernel_rfl) (by kernel_rfl) (by kernel_rfl)
theorem ref53_Spent_ok : FnOk Try.prog (cfg []) ref53_Spent_id ref53_Spent := .of Try.func12 (by kernel_rfl) (by kernel_rfl) (by kernel_rfl)
theorem accounts_Over_ok : FnOk Try.prog (cfg []) accounts_Over_id accounts_Over := .of Try.func13 (by kernel_rfl) (by kernel_rfl) (by kernel_rfl)
theorem ref53_Over_ok : FnOk Try.prog (cfg []) ref53_Over_id ref53_Over := .of Try.func14 (by kernel_rfl) (by kernel_rfl) (by kernel_rfl)
theorem ref53_SameInts_ok : FnOk Try.prog (cfg []) ref53_SameInts_id ref53_SameInts := .of Try.func15 (by kernel_rfl) (by kernel_rfl) (by kernel_rfl)
theorem accounts_History_ok : FnOk Try.prog (cfg []) accounts_History_id accounts_History := .of Try.func16 (by kernel_rfl) (by kernel_rfl) (by kernel_rfl)
theorem ref53_History_ok : FnOk Try.prog (cfg []) ref53_History_id ref53_History := .of Try.func17 (by kernel_rfl) (by kernel_rfl) (by kernel_rfl)
theorem ref53_SameSteps_ok : FnOk Try.prog (cfg []) ref53_SameSteps_id ref53_SameSteps := .of Try.func18 (by kernel_rfl) (by kernel_rfl) (by kernel_rfl)
theorem law53_right_ok : FnOk Try.prog (cfg []) law53_right_id law53_right := .of Try.func19 (by kernel_rfl) (by kernel_rfl) (by kernel_rfl)
theorem budgets_Standing_ok : FnOk Try.prog (cfg []) budgets_Standing_id budgets_Standing := .of Try.func20 (by kernel_rfl) (by kernel_rfl) (by kernel_rfl)
theorem ref53_Find_ok : FnOk Try.prog (cfg []) ref53_Find_id ref53_Find := .of Try.func21 (by kernel_rfl) (by kernel_rfl) (by kernel_rfl)
theorem budgets_Room_ok : FnOk Try.prog (cfg []) budgets_Room_id budgets_Room := .of Try.func22 (by kernel_rfl) (by kernel_rfl) (by kernel_rfl)
theorem accounts_examine_ok : FnOk Try.prog (cfg []) accounts_examine_id accounts_examine := .of Try.func23 (by kernel_rfl) (by kernel_rfl) (by kernel_rfl)
theorem accounts_find_ok : FnOk Try.prog (cfg []) accounts_find_id accounts_find := .of Try.func24 (by kernel_rfl) (by kernel_rfl) (by kernel_rfl)
theorem accounts_within_ok : FnOk Try.prog (cfg []) accounts_within_id accounts_within := .of Try.func25 (by kernel_rfl) (by kernel_rfl) (by kernel_rfl)
theorem accounts_book_spent_ok : FnOk Try.prog (cfg []) accounts_book_spent_id accounts_book_spent := .of Try.func26 (by kernel_rfl) (by kernel_rfl) (by kernel_rfl)
theorem ref53_Error_ok : FnOk Try.prog (cfg []) ref53_Error_id ref53_Error := .of Try.func27 (by kernel_rfl) (by kernel_rfl) (by kernel_rfl)
theorem ref53_Time_ok : FnOk Try.prog (cfg []) ref53_Time_id ref53_Time := .of Try.func28 (by kernel_rfl) (by kernel_rfl) (by kernel_rfl)
theorem ref53_spent_ok : FnOk Try.prog (cfg []) ref53_spent_id ref53_spent := .of Try.func29 (by kernel_rfl) (by kernel_rfl) (by kernel_rfl)
theorem accounts_book_fine_ok : FnOk Try.prog (cfg []) accounts_book_fine_id accounts_book_fine := .of Try.func30 (by kernel_rfl) (by kernel_rfl) (by kernel_rfl)
end Go.Abs

/- The program's functions in the small form. Printed by a program (mkcode.py). No conditions. -/
namespace Go.Abs
open Go.Proofs
theorem slices_Sorted_int_ok : FnOk Try.prog (cfg []) slices_Sorted_int_id slices_Sorted_int := .of Try.func31 (by kernel_rfl) (by kernel_rfl) (by kernel_rfl)
theorem maps_Keys_map_int_bool_int_bool_ok : FnOk Try.prog (cfg []) maps_Keys_map_int_bool_int_bool_id maps_Keys_map_int_bool_int_bool := .of Try.func32 (by kernel_rfl) (by kernel_rfl) (by kernel_rfl)
theorem ref53_over_ok : FnOk Try.prog (cfg []) ref53_over_id ref53_over := .of Try.func33 (by kernel_rfl) (by kernel_rfl) (by kernel_rfl)
theorem accounts_book_in_ok : FnOk Try.prog (cfg []) accounts_book_in_id accounts_book_in := .of Try.func34 (by kernel_rfl) (by kernel_rfl) (by kernel_rfl)
theorem accounts_sum_add_ok : FnOk Try.prog (cfg []) accounts_sum_add_id accounts_sum_add := .of Try.func35 (by kernel_rfl) (by kernel_rfl) (by kernel_rfl)
theorem maps_Keys_map_int_accounts_sum_int_accounts_sum_ok : FnOk Try.prog (cfg []) maps_Keys_map_int_accounts_sum_int_accounts_sum_id maps_Keys_map_int_accounts_sum_int_accounts_sum := .of Try.func36 (by kernel_rfl) (by kernel_rfl) (by kernel_rfl)
theorem ref53_of_ok : FnOk Try.prog (cfg []) ref53_of_id ref53_of := .of Try.func37 (by kernel_rfl) (by kernel_rfl) (by kernel_rfl)
theorem ref53_put_ok : FnOk Try.prog (cfg []) ref53_put_id ref53_put := .of Try.func38 (by kernel_rfl) (by kernel_rfl) (by kernel_rfl)
theorem ref53_tooMuch_ok : FnOk Try.prog (cfg []) ref53_tooMuch_id ref53_tooMuch := .of Try.func39 (by kernel_rfl) (by kernel_rfl) (by kernel_rfl)
theorem budgets_Check_ok : FnOk Try.prog (cfg []) budgets_Check_id budgets_Check := .of Try.func40 (by kernel_rfl) (by kernel_rfl) (by kernel_rfl)
theorem budgets_between_ok : FnOk Try.prog (cfg []) budgets_between_id budgets_between := .of Try.func41 (by kernel_rfl) (by kernel_rfl) (by kernel_rfl)
theorem budgets_standing_ok : FnOk Try.prog (cfg []) budgets_standing_id budgets_standing := .of Try.func42 (by kernel_rfl) (by kernel_rfl) (by kernel_rfl)
theorem budgets_uses_ok : FnOk Try.prog (cfg []) budgets_uses_id budgets_uses := .of Try.func43 (by kernel_rfl) (by kernel_rfl) (by kernel_rfl)
theorem budgets_used_ok : FnOk Try.prog (cfg []) budgets_used_id budgets_used := .of Try.func44 (by kernel_rfl) (by kernel_rfl) (by kernel_rfl)
theorem ref18_Check_ok : FnOk Try.prog (cfg []) ref18_Check_id ref18_Check := .of Try.func45 (by kernel_rfl) (by kernel_rfl) (by kernel_rfl)
theorem ref18_Uses_ok : FnOk Try.prog (cfg []) ref18_Uses_id ref18_Uses := .of Try.func46 (by kernel_rfl) (by kernel_rfl) (by kernel_rfl)
theorem slices_Collect_int_ok : FnOk Try.prog (cfg []) slices_Collect_int_id slices_Collect_int := .of Try.func47 (by kernel_rfl) (by kernel_rfl) (by kernel_rfl)
theorem slices_Sort_int_int_ok : FnOk Try.prog (cfg []) slices_Sort_int_int_id slices_Sort_int_int := .of Try.func48 (by kernel_rfl) (by kernel_rfl) (by kernel_rfl)
theorem maps_Keys_map_int_bool_int_bool_1_ok : FnOk Try.prog (cfg []) maps_Keys_map_int_bool_int_bool_1_id maps_Keys_map_int_bool_int_bool_1 := .of Try.func49 (by kernel_rfl) (by kernel_rfl) (by kernel_rfl)
theorem ref18_Standing_ok : FnOk Try.prog (cfg []) ref18_Standing_id ref18_Standing := .of Try.func50 (by kernel_rfl) (by kernel_rfl) (by kernel_rfl)
theorem ref53_has_ok : FnOk Try.prog (cfg []) ref53_has_id ref53_has := .of Try.func51 (by kernel_rfl) (by kernel_rfl) (by kernel_rfl)
theorem accounts_book_in_1_ok : FnOk Try.prog (cfg []) accounts_book_in_1_id accounts_book_in_1 := .of Try.func52 (by kernel_rfl) (by kernel_rfl) (by kernel_rfl)
theorem maps_Keys_map_int_accounts_sum_int_accounts_sum_1_ok : FnOk Try.prog (cfg []) maps_Keys_map_int_accounts_sum_int_accounts_sum_1_id maps_Keys_map_int_accounts_sum_int_accounts_sum_1 := .of Try.func53 (by kernel_rfl) (by kernel_rfl) (by kernel_rfl)
theorem budgets_right_ok : FnOk Try.prog (cfg []) budgets_right_id budgets_right := .of Try.func54 (by kernel_rfl) (by kernel_rfl) (by kernel_rfl)
theorem slices_ContainsFunc_int_int_ok : FnOk Try.prog (cfg []) slices_ContainsFunc_int_int_id slices_ContainsFunc_int_int := .of Try.func55 (by kernel_rfl) (by kernel_rfl) (by kernel_rfl)
theorem budgets_between_1_ok : FnOk Try.prog (cfg []) budgets_between_1_id budgets_between_1 := .of Try.func56 (by kernel_rfl) (by kernel_rfl) (by kernel_rfl)
theorem budgets_used_1_ok : FnOk Try.prog (cfg []) budgets_used_1_id budgets_used_1 := .of Try.func57 (by kernel_rfl) (by kernel_rfl) (by kernel_rfl)
theorem ref18_Right_ok : FnOk Try.prog (cfg []) ref18_Right_id ref18_Right := .of Try.func58 (by kernel_rfl) (by kernel_rfl) (by kernel_rfl)
theorem ref18_within_ok : FnOk Try.prog (cfg []) ref18_within_id ref18_within := .of Try.func59 (by kernel_rfl) (by kernel_rfl) (by kernel_rfl)
theorem ref18_kind_ok : FnOk Try.prog (cfg []) ref18_kind_id ref18_kind := .of Try.func60 (by kernel_rfl) (by kernel_rfl) (by kernel_rfl)
theorem ref18_moment_ok : FnOk Try.prog (cfg []) ref18_moment_id ref18_moment := .of Try.func61 (by kernel_rfl) (by kernel_rfl) (by kernel_rfl)
theorem slices_AppendSeq_int_int_ok : FnOk Try.prog (cfg []) slices_AppendSeq_int_int_id slices_AppendSeq_int_int := .of Try.func62 (by kernel_rfl) (by kernel_rfl) (by kernel_rfl)
theorem slices_pdqsortOrdered_int_ok : FnOk Try.prog (cfg []) slices_pdqsortOrdered_int_id slices_pdqsortOrdered_int := .of Try.func63 (by kernel_rfl) (by kernel_rfl) (by kernel_rfl)
theorem math_bits_Len_ok : FnOk Try.prog (cfg []) math_bits_Len_id math_bits_Len := .of Try.func64 (by kernel_rfl) (by kernel_rfl) (by kernel_rfl)
theorem ref18_standing_ok : FnOk Try.prog (cfg []) ref18_standing_id ref18_standing := .of Try.func65 (by kernel_rfl) (by kernel_rfl) (by kernel_rfl)
theorem slices_IndexFunc_int_int_ok : FnOk Try.prog (cfg []) slices_IndexFunc_int_int_id slices_IndexFunc_int_int := .of Try.func66 (by kernel_rfl) (by kernel_rfl) (by kernel_rfl)
theorem slices_insertionSortOrdered_int_ok : FnOk Try.prog (cfg []) slices_insertionSortOrdered_int_id slices_insertionSortOrdered_int := .of Try.func67 (by kernel_rfl) (by kernel_rfl) (by kernel_rfl)
theorem slices_heapSortOrdered_int_ok : FnOk Try.prog (cfg []) slices_heapSortOrdered_int_id slices_heapSortOrdered_int := .of Try.func68 (by kernel_rfl) (by kernel_rfl) (by kernel_rfl)
theorem slices_breakPatternsOrdered_int_ok : FnOk Try.prog (cfg []) slices_breakPatternsOrdered_int_id slices_breakPatternsOrdered_int := .of Try.func69 (by kernel_rfl) (by kernel_rfl) (by kernel_rfl)
theorem slices_choosePivotOrdered_int_ok : FnOk Try.prog (cfg []) slices_choosePivotOrdered_int_id slices_choosePivotOrdered_int := .of Try.func70 (by kernel_rfl) (by kernel_rfl) (by kernel_rfl)
theorem slices_reverseRangeOrdered_int_ok : FnOk Try.prog (cfg []) slices_reverseRangeOrdered_int_id slices_reverseRangeOrdered_int := .of Try.func71 (by kernel_rfl) (by kernel_rfl) (by kernel_rfl)
theorem slices_partialInsertionSortOrdered_int_ok : FnOk Try.prog (cfg []) slices_partialInsertionSortOrdered_int_id slices_partialInsertionSortOrdered_int := .of Try.func72 (by kernel_rfl) (by kernel_rfl) (by kernel_rfl)
theorem cmp_Less_int_ok : FnOk Try.prog (cfg []) cmp_Less_int_id cmp_Less_int := .of Try.func73 (by kernel_rfl) (by kernel_rfl) (by kernel_rfl)
theorem slices_partitionEqualOrdered_int_ok : FnOk Try.prog (cfg []) slices_partitionEqualOrdered_int_id slices_partitionEqualOrdered_int := .of Try.func74 (by kernel_rfl) (by kernel_rfl) (by kernel_rfl)
theorem slices_partitionOrdered_int_ok : FnOk Try.prog (cfg []) slices_partitionOrdered_int_id slices_partitionOrdered_int := .of Try.func75 (by kernel_rfl) (by kernel_rfl) (by kernel_rfl)
theorem math_bits_Len32_ok : FnOk Try.prog (cfg []) math_bits_Len32_id math_bits_Len32 := .of Try.func76 (by kernel_rfl) (by kernel_rfl) (by kernel_rfl)
theorem math_bits_Len64_ok : FnOk Try.prog (cfg []) math_bits_Len64_id math_bits_Len64 := .of Try.func77 (by kernel_rfl) (by kernel_rfl) (by kernel_rfl)
theorem ref18_stands_ok : FnOk Try.prog (cfg []) ref18_stands_id ref18_stands := .of Try.func78 (by kernel_rfl) (by kernel_rfl) (by kernel_rfl)
theorem slices_siftDownOrdered_int_ok : FnOk Try.prog (cfg []) slices_siftDownOrdered_int_id slices_siftDownOrdered_int := .of Try.func79 (by kernel_rfl) (by kernel_rfl) (by kernel_rfl)
theorem slices_nextPowerOfTwo_ok : FnOk Try.prog (cfg []) slices_nextPowerOfTwo_id slices_nextPowerOfTwo := .of Try.func80 (by kernel_rfl) (by kernel_rfl) (by kernel_rfl)
theorem slices_xorshift_Next_ok : FnOk Try.prog (cfg []) slices_xorshift_Next_id slices_xorshift_Next := .of Try.func81 (by kernel_rfl) (by kernel_rfl) (by kernel_rfl)
theorem slices_medianAdjacentOrdered_int_ok : FnOk Try.prog (cfg []) slices_medianAdjacentOrdered_int_id slices_medianAdjacentOrdered_int := .of Try.func82 (by kernel_rfl) (by kernel_rfl) (by kernel_rfl)
theorem slices_medianOrdered_int_ok : FnOk Try.prog (cfg []) slices_medianOrdered_int_id slices_medianOrdered_int := .of Try.func83 (by kernel_rfl) (by kernel_rfl) (by kernel_rfl)
theorem cmp_isNaN_int_ok : FnOk Try.prog (cfg []) cmp_isNaN_int_id cmp_isNaN_int := .of Try.func84 (by kernel_rfl) (by kernel_rfl) (by kernel_rfl)
theorem ref18_counts_ok : FnOk Try.prog (cfg []) ref18_counts_id ref18_counts := .of Try.func85 (by kernel_rfl) (by kernel_rfl) (by kernel_rfl)
theorem slices_order2Ordered_int_ok : FnOk Try.prog (cfg []) slices_order2Ordered_int_id slices_order2Ordered_int := .of Try.func86 (by kernel_rfl) (by kernel_rfl) (by kernel_rfl)
end Go.Abs

/- The program's functions in the small form. Printed by a program (mkcode.py). No conditions. -/
namespace Go.Abs
open Go.Proofs
theorem tyTab_ok : tyTab = (List.range 139).map (tiOf Try.prog) := by kernel_rfl
theorem cfg_ok (a : List Nat) : CfgOk Try.prog (cfg a) := by
  intro t
  simp only [Cfg.ty, cfg, tyTab_ok]
  by_cases h : t < 139
  · left; simp [h]
  · right; simp [h]
theorem mix_ok : Try.prog.follows .mixedOrders = true := Checked.mixed Try.checked
/-- The context is of this program. -/
structure In (C : Ctx) : Prop where
  P : C.P = Try.prog
theorem In.good {C : Ctx} (h : In C) (a : List Nat) : Good C (cfg a) := ⟨by rw [h.P]; exact cfg_ok a, by rw [h.P]; exact mix_ok⟩
theorem In.fn {C : Ctx} (h : In C) {a : List Nat} {f : Nat} {ir : FnIR} (hf : FnOk Try.prog (cfg a) f ir) : FnOk C.P (cfg a) f ir := by rw [h.P]; exact hf
/-- A function called by its name. -/
theorem In.call {C : Ctx} (h : In C) {a : List Nat} {f : Nat} {ir : FnIR} (hf : FnOk Try.prog (cfg a) f ir) {args : List D} (hlen : args.length ≤ ir.nt) {S : OwnF} {Q : Res → OwnF → Prop}
    (hwp : ∀ ℓ, (∀ s i, S (.v ℓ s i) = none) → S (.ctr ℓ) = none → wp C ℓ ir.body ⟨argSlots 0 args, [], S, 0, []⟩ (fnK ir.res Q)) : CallV C (.dat (.fn f [] [])) args S Q :=
  callI (h.good a) (h.fn hf) (first := []) (caps := []) rfl (by simpa using hlen) (by simpa using hwp)
/-- A closure. -/
theorem In.callc {C : Ctx} (h : In C) {a : List Nat} {f : Nat} {ir : FnIR} (hf : FnOk Try.prog (cfg a) f ir) {first caps args : List D} (hlen : (first ++ args ++ caps).length ≤ ir.nt) {S : OwnF} {Q : Res → OwnF → Prop}
    (hwp : ∀ ℓ, (∀ s i, S (.v ℓ s i) = none) → S (.ctr ℓ) = none → wp C ℓ ir.body ⟨argSlots 0 (first ++ args ++ caps), [], S, 0, []⟩ (fnK ir.res Q)) : CallV C (.fn f first caps) args S Q :=
  callI (h.good a) (h.fn hf) rfl hlen hwp
end Go.Abs

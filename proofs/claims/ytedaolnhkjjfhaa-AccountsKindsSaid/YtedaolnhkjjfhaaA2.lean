/- The abstract layer, part 11: lists that are made; what is forgotten of a value. No conditions. -/
import Derived.Test.YtedaolnhkjjfhaaA1
import Derived.Laws.StructEq
import GoSem.Instr.Lookup
import GoSem.Dispatch
import Derived.Laws.CopyRow
import Derived.Laws.Rows
import Derived.Laws.Append
import GoSem.Instr.MapUpdate
import GoSem.Builtin.Delete
import GoSem.Builtin.Append
import GoSem.Builtin.Copy
import Derived.Laws.MakeOwn
import GoSem.Instr.Range
import GoSem.Instr.Next
import GoSem.Instr.Entry
set_option linter.unusedVariables false
set_option linter.unusedSimpArgs false
set_option linter.unnecessarySimpa false
namespace Go.Abs
open Go.RowKit

theorem V_wk1 {M : Mem} {x : Dat} {v : Value} (h : V M x v) : V M x.wk1 v := by
  cases x <;> simp only [Dat.wk1] <;> try exact h
  simp only [V] at *
  obtain ⟨base, len, cap, h1, h2, h3, h4, h5⟩ := h
  exact ⟨base, len, cap, h1, h2, h3, fun e => by simp at e, h5⟩
theorem Vl_wk1 {M : Mem} : ∀ {xs : List Dat} {vs : List Value}, Vl M xs vs → Vl M (xs.map Dat.wk1) vs
  | [], [], _ => by simp [Vl]
  | [], _ :: _, h => by simp [Vl] at h
  | _ :: _, [], h => by simp [Vl] at h
  | x :: xs, v :: vs, h => by
    simp only [Vl, List.map_cons] at *
    exact ⟨V_wk1 h.1, Vl_wk1 h.2⟩
theorem V_wk {M : Mem} {x : Dat} {v : Value} (h : V M x v) : V M x.wk v := by
  unfold Dat.wk
  split
  · simp only [V] at *
    obtain ⟨a, h1, h2, h3⟩ := h
    exact ⟨a, h1, Vl_wk1 h2, h3⟩
  · exact V_wk1 h
theorem lst_list {M : Mem} {xs : List Dat} {r : Ref} {v : Value} (h : VD M (.lst xs r) v) : V M (.list xs false) v := by
  simp only [VD, V] at *
  obtain ⟨p, base, len, cap, h1, h2, h3, h4, h5⟩ := h
  refine ⟨base, len, cap, h1, h2, h3, fun e => by simp at e, ?_⟩
  rcases h5 with ⟨h5, h6 | ⟨b, o, h6, h7⟩⟩ | ⟨o, h5, h6, h7, h8⟩
  · exact .inl h6
  · exact .inr ⟨_, _, _, h6, h7⟩
  · exact .inr ⟨_, _, _, h5, h8⟩
theorem VD_wk1 {M : Mem} {d : D} {v : Value} (h : VD M d v) : VD M d.wk1 v := by
  cases d <;> simp only [D.wk1] <;> try exact h
  · simp only [VD] at *; exact V_wk1 h
  · simp only [VD]; exact lst_list h
theorem VDl_wk1 {M : Mem} : ∀ {ds : List D} {vs : List Value}, VDl M ds vs → VDl M (ds.map D.wk1) vs
  | [], [], _ => by simp [VDl]
  | [], _ :: _, h => by simp [VDl] at h
  | _ :: _, [], h => by simp [VDl] at h
  | x :: xs, v :: vs, h => by
    simp only [VDl, List.map_cons] at *
    exact ⟨VD_wk1 h.1, VDl_wk1 h.2⟩
theorem VD_arg {M : Mem} {d : D} {v : Value} (h : VD M d v) : VD M d.arg v := by
  unfold D.arg
  split
  · simp only [VD, V] at *
    obtain ⟨a, h1, h2, h3⟩ := h
    exact ⟨a, h1, Vl_wk1 h2, h3⟩
  · simp only [VD]; exact lst_list h
  · rename_i cs
    simp only [VD] at h
    obtain ⟨a, rfl, h2, h3⟩ := h
    simpa using mkAgg_ok (VDl_wk1 h2) h3
  · exact h
theorem elem_ok {M : Mem} {d : D} {x : Dat} {v : Value} (h : VD M d v) (hx : d.elem = some x) : V M x v := by
  unfold D.elem at hx
  split at hx
  · simp at hx; subst hx; simp only [VD] at h; exact V_wk h
  · simp at hx; subst hx; exact lst_list h
  · rename_i cs
    simp only [Option.map_eq_some_iff] at hx
    obtain ⟨xs, h1, rfl⟩ := hx
    simp only [VD] at h
    obtain ⟨a, rfl, h2, h3⟩ := h
    have := VDl_wk1 h2
    rw [dats_some _ _ h1, VDl_dat] at this
    simp only [V]
    exact ⟨a, rfl, this, h3⟩
  · rename_i f a b
    split at hx
    · rename_i xs ys e1 e2
      simp at hx; subst hx
      simp only [VD] at h
      obtain ⟨p, q, rfl, h2, h3⟩ := h
      rw [dats_some _ _ e1, VDl_dat] at h2
      rw [dats_some _ _ e2, VDl_dat] at h3
      simp only [V]
      exact ⟨p, q, rfl, h2, h3⟩
    · simp at hx
  · simp at hx

/-- Cells that hold elements of k cells each. -/
def EltA (M : Mem) (k : Nat) (a : Array Value) (xs : List Dat) : Prop :=
  a.size = xs.length * k ∧ ∀ (i : Nat) x, xs[i]? = some x → ∃ v, V M x v ∧ v.cells.size = k ∧ (∀ c ∈ v.cells.toList, flatV c) ∧ ∀ j, j < k → a[i * k + j]? = v.cells[j]?

theorem V_flat {M : Mem} {x : Dat} {v : Value} (h : V M x v) (hc : x.cells ≠ []) : ∀ c ∈ v.cells.toList, flatV c := by
  obtain ⟨h1, h2⟩ := V_cells h hc
  intro c hm
  obtain ⟨j, hj, e⟩ := List.getElem_of_mem hm
  have hj' : j < v.cells.size := by simpa using hj
  obtain ⟨y, e1, e2, _⟩ := h2 j (.dat (x.cells[j]'(by omega))) (by simp)
  have e1' : v.cells[j]? = some y := e1
  rw [Array.getElem?_eq_getElem hj'] at e1'
  have : v.cells[j] = y := by simpa using e1'
  rw [← e]; simp only [Array.getElem_toList]; rw [this]; exact e2

theorem EltA.set {M : Mem} {k : Nat} {a : Array Value} {xs : List Dat} (h : EltA M k a xs) {i : Nat} {x : Dat} {v : Value} (hk : k ≠ 0) (hx : V M x v) (hxk : x.cells.length = k) (hi : i < xs.length) :
    v.cells.size = k ∧ EltA M k (layV a (i * k) v.cells.toList) (xs.set i x) := by
  have hc : x.cells ≠ [] := by intro e; rw [e] at hxk; simp at hxk; omega
  obtain ⟨h1, _⟩ := V_cells hx hc
  have hv : v.cells.size = k := by omega
  refine ⟨hv, by rw [layV_size, List.length_set]; exact h.1, fun m y hm => ?_⟩
  by_cases e : i = m
  · subst e
    rw [List.getElem?_set_self hi] at hm
    simp at hm; subst hm
    refine ⟨v, hx, hv, V_flat hx hc, fun j hj => ?_⟩
    rw [layV_get]
    have : i * k + k ≤ xs.length * k := by
      have := Nat.mul_le_mul_right k hi
      rw [Nat.succ_mul] at this; exact this
    have h0 := h.1
    rw [if_pos (by simp only [Array.length_toList]; omega)]
    have : i * k + j - i * k = j := by omega
    rw [this]; simp
  · rw [List.getElem?_set_ne e] at hm
    obtain ⟨u, g1, g2, g3, g4⟩ := h.2 m y hm
    refine ⟨u, g1, g2, g3, fun j hj => ?_⟩
    rw [layV_get, if_neg, g4 j hj]
    simp only [Array.length_toList, hv]
    intro ⟨e1, e2, _⟩
    have : i = m := by
      have a1 : i * k < (m + 1) * k := by rw [Nat.succ_mul]; omega
      have a2 : m * k < (i + 1) * k := by rw [Nat.succ_mul]; omega
      have b1 := Nat.lt_of_mul_lt_mul_right a1
      have b2 := Nat.lt_of_mul_lt_mul_right a2
      omega
    exact e this

theorem bfill_ok {M : Mem} {k : Nat} : ∀ (ps : List (Nat × D × Value)) (a : Array Value) (xs l : List Dat), EltA M k a xs → (∀ p ∈ ps, VD M p.2.1 p.2.2) → bfill k xs (ps.map fun p => (p.1, p.2.1.elem)) = some l →
    ∃ b, Instr.fill (fun i => some (i * k, k)) a (ps.map fun p => (p.1, p.2.2)) = some b ∧ EltA M k b l
  | [], a, xs, l, h, _, hl => by simp [bfill] at hl; subst hl; exact ⟨a, rfl, h⟩
  | (i, d, u) :: ps, a, xs, l, h, hp, hl => by
    simp only [List.map_cons] at hl
    cases e : d.elem with
    | none => rw [e] at hl; simp [bfill] at hl
    | some x =>
      rw [e] at hl
      simp only [bfill] at hl
      split at hl
      case isFalse => simp at hl
      rename_i hc
      have hv : V M x u := elem_ok (hp (i, d, u) (by simp)) e
      obtain ⟨h1, h2⟩ := h.set (i := i) hc.1 hv hc.2.1 hc.2.2
      obtain ⟨b, h3, h4⟩ := bfill_ok ps _ _ l h2 (fun p hp' => hp p (by simp [hp'])) hl
      refine ⟨b, ?_, h4⟩
      have hs := h.1
      have hle : i * k + k ≤ xs.length * k := by
        have := Nat.mul_le_mul_right k hc.2.2
        rw [Nat.succ_mul] at this; exact this
      have e0 : ¬ ((decide (u.cells.size ≠ k) || decide (i * k + u.cells.size > a.size)) = true) := by simp; omega
      show (if (decide (u.cells.size ≠ k) || decide (i * k + u.cells.size > a.size)) = true then none else _) = some b
      rw [if_neg e0, foldl_layV]
      exact h3

/-- A new block that holds a list. -/
theorem EltA.know {C : Ctx} {M : Mem} {g : Ref → Option Blk} {w : World} (hrs : RS C M g w) {k : Nat} {a : Array Value} {xs : List Dat} (h : EltA M k a xs) (el : TypeId) (full : Bool) :
    ∃ M', M.le M' ∧ RS C M' g (w.alloc (.cells a el)) ∧ V M' (.list xs full) (.slice (some ⟨w.heap.size, 0, none⟩) xs.length xs.length) := by
  obtain ⟨h1, h2⟩ := hrs.know a el
  refine ⟨_, h1, h2, ?_⟩
  simp only [V]
  refine ⟨_, _, _, rfl, rfl, Nat.le_refl _, fun _ => rfl, .inr ⟨_, _, k, rfl, Vs_of fun i x hi => ?_⟩⟩
  obtain ⟨v, g1, g2, g3, g4⟩ := h.2 i x hi
  refine ⟨v, V.mono h1 _ _ g1, g2, g3, fun j hj => ?_⟩
  rw [← g4 j hj]
  simp [Mem.know]

theorem EltA.zero {M : Mem} {n k : Nat} {agg : Bool} {z : List Dat} {zv : Array Value} (hz : Vl M z zv.toList) (hf : ∀ x ∈ zv.toList, flatV x) (hl : z.length = k) (hk : k ≠ 0) (hg : agg = true ∨ k = 1) :
    EltA M k ((Array.range (n * k)).map (fun i => zv[i % zv.size]!)) (List.replicate n (zeroElem agg z)) := by
  have hs : zv.size = k := by have := (Vl_get hz).1; simp at this; omega
  refine ⟨by simp, fun i x hi => ?_⟩
  rw [List.getElem?_replicate] at hi
  split at hi
  case isFalse => simp at hi
  rename_i hin
  simp at hi
  have hrd : ∀ j, j < k → ((Array.range (n * k)).map (fun i => zv[i % zv.size]!))[i * k + j]? = zv[j]? := by
    intro j hj
    have : i * k + j < n * k := by
      have := Nat.mul_le_mul_right k hin
      rw [Nat.succ_mul] at this; omega
    rw [Array.getElem?_map, Array.getElem?_range, if_pos this]
    simp only [Option.map_some]
    rw [hs]
    have : (i * k + j) % k = j := by rw [Nat.mul_comm, Nat.mul_add_mod]; exact Nat.mod_eq_of_lt hj
    rw [this]
    rw [Array.getElem?_eq_getElem (by omega)]
    simp [hs, hj]
  unfold zeroElem at hi
  cases agg with
  | true =>
    simp at hi; subst hi
    refine ⟨.agg zv, by simp only [V]; exact ⟨zv, rfl, hz, hf⟩, by simpa [Value.cells] using hs, by simpa [Value.cells] using hf, fun j hj => ?_⟩
    rw [hrd j hj]; rfl
  | false =>
    simp at hi
    have hk1 : k = 1 := by simpa using hg
    subst hk1
    obtain ⟨y, rfl⟩ : ∃ y, z = [y] := by
      match z, hl with
      | [y], _ => exact ⟨y, rfl⟩
    simp at hi; subst hi
    obtain ⟨u, e1, e2⟩ := (Vl_get hz).2 0 y (by simp)
    have hu : flatV u := hf u (List.mem_of_getElem? e1)
    have huc : u.cells = #[u] := by cases u <;> first | rfl | (simp [flatV] at hu)
    refine ⟨u, e2, by rw [huc]; rfl, by rw [huc]; simpa using hu, fun j hj => ?_⟩
    have : j = 0 := by omega
    subst this
    rw [hrd 0 (by omega), huc]
    simpa using e1

end Go.Abs

/- The abstract layer, part 12: slices, elements, fields, maps that are looked at. No conditions. -/
namespace Go.Abs
open Go.RowKit

section
variable {C : Ctx} {c : Cfg} {M : Mem} {g : Ref → Option Blk} {w : World}

theorem bnd_run {y n dflt : Nat} {code : BoundsCode} {d : D} {u : Value} (hu : VD M d u) (h : bnd dflt (some d) = some n) (hn : n ≤ y) : (Instr.sliceBound u y code).run C.P w = .ok n w := by
  unfold bnd at h
  split at h
  · simp at *
  · rename_i k i e
    simp at e; subst e
    simp only [VD, V] at hu
    subst hu
    split at h
    case isFalse => simp at h
    rename_i hi
    simp at h
    have : i ≤ (y : Int) := by omega
    simp [Instr.sliceBound, asIntOf, hi, this, h]
  · simp at h

theorem bounds_run {isS : Bool} {len cap l h m : Nat} {lo hi mx : Option D} {lo' hi' mx' : Option Value} (hlo : ∀ d, lo = some d → ∃ u, lo' = some u ∧ VD M d u) (hlo0 : lo = none → lo' = none)
    (hhi : ∀ d, hi = some d → ∃ u, hi' = some u ∧ VD M d u) (hhi0 : hi = none → hi' = none) (hmx : ∀ d, mx = some d → ∃ u, mx' = some u ∧ VD M d u) (hmx0 : mx = none → mx' = none)
    (h1 : bnd 0 lo = some l) (h2 : bnd len hi = some h) (h3 : (mx = none ∧ m = cap) ∨ (bnd 0 mx = some m ∧ mx ≠ none ∧ hi ≠ none)) (hl : l ≤ h) (hh : h ≤ m) (hm : m ≤ cap) :
    (Instr.sliceBounds isS len cap lo' hi' mx').run C.P w = .ok (l, h, m) w := by
  cases lo with
  | none =>
    obtain rfl := hlo0 rfl
    simp [bnd] at h1; subst h1
    cases mx with
    | none =>
      obtain rfl := hmx0 rfl
      have hm' : m = cap := by rcases h3 with h3 | h3 <;> simp_all
      subst hm'
      cases hi with
      | none => obtain rfl := hhi0 rfl; simp [bnd] at h2; subst h2; simp [Instr.sliceBounds]
      | some d =>
        obtain ⟨u, rfl, hu⟩ := hhi d rfl
        simp [Instr.sliceBounds, bnd_run (C := C) (w := w) hu h2 hh]
    | some dm =>
      obtain ⟨um, rfl, hum⟩ := hmx dm rfl
      have h3' : bnd 0 (some dm) = some m ∧ hi ≠ none := by rcases h3 with h3 | h3 <;> simp_all
      cases hi with
      | none => simp at h3'
      | some d =>
        obtain ⟨u, rfl, hu⟩ := hhi d rfl
        simp [Instr.sliceBounds, bnd_run (C := C) (w := w) hum h3'.1 hm, bnd_run (C := C) (w := w) hu h2 hh]
  | some dl =>
    obtain ⟨ul, rfl, hul⟩ := hlo dl rfl
    cases mx with
    | none =>
      obtain rfl := hmx0 rfl
      have hm' : m = cap := by rcases h3 with h3 | h3 <;> simp_all
      subst hm'
      cases hi with
      | none => obtain rfl := hhi0 rfl; simp [bnd] at h2; subst h2; simp [Instr.sliceBounds, bnd_run (C := C) (w := w) hul h1 hl]
      | some d =>
        obtain ⟨u, rfl, hu⟩ := hhi d rfl
        simp [Instr.sliceBounds, bnd_run (C := C) (w := w) hu h2 hh, bnd_run (C := C) (w := w) hul h1 hl]
    | some dm =>
      obtain ⟨um, rfl, hum⟩ := hmx dm rfl
      have h3' : bnd 0 (some dm) = some m ∧ hi ≠ none := by rcases h3 with h3 | h3 <;> simp_all
      cases hi with
      | none => simp at h3'
      | some d =>
        obtain ⟨u, rfl, hu⟩ := hhi d rfl
        simp [Instr.sliceBounds, bnd_run (C := C) (w := w) hum h3'.1 hm, bnd_run (C := C) (w := w) hu h2 hh, bnd_run (C := C) (w := w) hul h1 hl]

/-- Operands that may be missing. -/
theorem opt_val {v : Opd → D} {ρ : Operand → Value} (hv : ∀ x, VD M (v (opd x)) (ρ x)) (o : Option Operand) : (∀ d, (o.map opd).map v = some d → ∃ u, o.map ρ = some u ∧ VD M d u) ∧ ((o.map opd).map v = none → o.map ρ = none) := by
  cases o with
  | none => simp
  | some x => simp; exact hv x

theorem Vs_stride {k k' : Nat} : ∀ {xs : List Dat} {b o : Nat}, Vs M k' xs b o → strideOk k xs → k ≠ 0 → Vs M k xs b o
  | [], _, _, _, _, _ => by simp [Vs]
  | x :: xs, b, o, h, hs, hk => by
    have hx : x.cells.length = k := hs x (by simp)
    have e : k' = k := by
      simp only [Vs] at h
      obtain ⟨⟨v, h1, h2, _⟩, _⟩ := h
      have := (V_cells h1 (by intro e; rw [e] at hx; simp at hx; omega)).1
      omega
    subst e; exact h

theorem slice_list (hc : CfgOk C.P c) {t : TypeId} {e : Nat} (hk : (c.ty t).kind = .slice e) {xs : List Dat} {fl : Bool} {u : Value} (hu : V M (.list xs fl) u) {lo hi mx : Option D} {lo' hi' mx' : Option Value}
    (hlo : ∀ d, lo = some d → ∃ u, lo' = some u ∧ VD M d u) (hlo0 : lo = none → lo' = none)
    (hhi : ∀ d, hi = some d → ∃ u, hi' = some u ∧ VD M d u) (hhi0 : hi = none → hi' = none) (hmx : ∀ d, mx = some d → ∃ u, mx' = some u ∧ VD M d u) (hmx0 : mx = none → mx' = none)
    (hmh : mx ≠ none → hi ≠ none) {d : D} (hd : sliceB (c.ty e).size xs fl lo hi mx = some d) : ∃ r, (Instr.sliceAt t u lo' hi' mx').run C.P w = .ok r w ∧ VD M d r := by
  obtain ⟨i, td, ty⟩ := hc.of_kind (t := t) (by rw [hk]; simp)
  have htd := ty.slice hk
  subst htd
  simp only [V] at hu
  obtain ⟨base, len, cap, rfl, rfl, hcap, hfull, hbase⟩ := hu
  unfold sliceB at hd
  split at hd
  case isTrue => simp at hd
  rename_i hsz
  obtain ⟨ie, de, tye⟩ := hc.of_size hsz
  simp only [Option.bind_eq_some_iff] at hd
  obtain ⟨l, h1, h, h2, hd⟩ := hd
  -- what the bounds are, and what comes
  have key : ∀ (m : Nat) (f : Bool), ((mx = none ∧ m = cap) ∨ (bnd 0 mx = some m ∧ mx ≠ none ∧ hi ≠ none)) → l ≤ h → h ≤ m → h ≤ xs.length → m ≤ cap → (l = 0 ∨ strideOk (c.ty e).size xs) → (f = true → m = h) → d = .dat (.list ((xs.take h).drop l) f) →
      ∃ r, (Instr.sliceAt t (.slice base xs.length cap) lo' hi' mx').run C.P w = .ok r w ∧ VD M d r := by
    intro m f h3 hl hh hhx hm hst hf hdd
    have hrun := bounds_run (C := C) (w := w) (isS := true) hlo hlo0 hhi hhi0 hmx hmx0 h1 h2 h3 hl hh hm
    · refine ⟨.slice (if m = l then base else base.map (·.add (l * (c.ty e).size))) (h - l) (m - l), ?_, ?_⟩
      · simp only [Instr.sliceAt, Sem.run_bind, ty.run_underlying, Result.andThen_ok, Instr.slice, hrun, tye.run_sizeOf, Sem.run_pure]
      · subst hdd
        simp only [VD, V]
        refine ⟨_, _, _, rfl, by simp; omega, by omega, fun e' => by have := hf e'; omega, ?_⟩
        rcases hbase with hc0 | ⟨b, o, k, rfl, hvs⟩
        · left; omega
        · right
          split
          · rename_i e1
            refine ⟨b, o, k, rfl, ?_⟩
            have : (xs.take h).drop l = [] := by rw [List.drop_eq_nil_iff]; simp; omega
            rw [this]; simp [Vs]
          · refine ⟨b, o + l * (c.ty e).size, k, by simp [add_none], ?_⟩
            rcases hst with rfl | hs
            · simpa using Vs_drop hvs 0 h
            · cases xs with
              | nil => simp [Vs]
              | cons x xs =>
                have hke : k = (c.ty e).size := by
                  have hx : x.cells.length = (c.ty e).size := hs x (by simp)
                  simp only [Vs] at hvs
                  obtain ⟨⟨v, g1, g2, _⟩, _⟩ := hvs
                  have := (V_cells g1 (by intro e; rw [e] at hx; simp at hx; omega)).1
                  omega
                rw [← hke]
                exact Vs_drop hvs l h
  cases mx with
  | none =>
    simp only [sliceL] at hd
    split at hd
    case isFalse => simp at hd
    rename_i hcnd
    simp at hd
    refine key cap _ (.inl ⟨rfl, rfl⟩) hcnd.1 (by omega) hcnd.2.1 (Nat.le_refl _) hcnd.2.2 (fun e => ?_) hd.symm
    simp at e
    have := hfull e.1
    omega
  | some dm =>
    simp only [Option.bind_eq_some_iff] at hd
    obtain ⟨m, h3, hd⟩ := hd
    simp only [sliceL] at hd
    split at hd
    case isFalse => simp at hd
    rename_i hcnd
    simp at hd
    exact key m _ (.inr ⟨h3, by simp, hmh (by simp)⟩) hcnd.1 hcnd.2.1 (by omega) (by omega) hcnd.2.2.2 (fun e => by have := of_decide_eq_true e; omega) hd.symm

end
end Go.Abs

/- The abstract layer, part 13: elements, fields, lengths, maps that are looked at. No conditions. -/
namespace Go.Abs
open Go.RowKit

section
variable {C : Ctx} {c : Cfg} {M : Mem} {g : Ref → Option Blk} {w : World}

theorem slice_ok (hc : CfgOk C.P c) {t : TypeId} {e : Nat} (hk : (c.ty t).kind = .slice e) (hrs : RS C M g w) {get : Ref → Option Blk} (hget : ∀ r b, get r = some b → g r = some b) {v : Opd → D} {ρ : Operand → Value} (hv : ∀ x, VD M (v (opd x)) (ρ x))
    {x : Operand} {lo hi mx : Option Operand} (hmh : mx ≠ none → hi ≠ none) {d : D}
    (hd : sliceD get (c.ty e).size ((lo.map opd).map v) ((hi.map opd).map v) ((mx.map opd).map v) (v (opd x)) = some d) :
    ∃ r, (Instr.sliceAt t (ρ x) (lo.map ρ) (hi.map ρ) (mx.map ρ)).run C.P w = .ok r w ∧ VD M d r := by
  have hx := hv x
  obtain ⟨l1, l2⟩ := opt_val hv lo
  obtain ⟨h1, h2⟩ := opt_val hv hi
  obtain ⟨m1, m2⟩ := opt_val hv mx
  have hmh' : (mx.map opd).map v ≠ none → (hi.map opd).map v ≠ none := by cases mx <;> cases hi <;> simp_all
  unfold sliceD at hd
  split at hd
  · rename_i xs fl e1
    rw [e1] at hx
    simp only [VD] at hx
    exact slice_list hc hk hx l1 l2 h1 h2 m1 m2 hmh' hd
  · rename_i xs r e1
    rw [e1] at hx
    exact slice_list hc hk (lst_list hx) l1 l2 h1 h2 m1 m2 hmh' hd
  · rename_i r off len e1
    rw [e1] at hx
    split at hd
    case h_2 => simp at hd
    rename_i k' gg cs hg
    simp only [Option.bind_eq_some_iff] at hd
    obtain ⟨l, hl, h, hh, hd⟩ := hd
    split at hd
    case h_2 => simp at hd
    rename_i hmx
    split at hd
    case isFalse => simp at hd
    rename_i hcnd
    obtain ⟨i, td, ty⟩ := hc.of_kind (t := t) (by rw [hk]; simp)
    have htd := ty.slice hk
    subst htd
    obtain ⟨ie, de, tye⟩ := hc.of_size hcnd.2.1
    simp only [VD] at hx
    obtain ⟨p, cap, hx, hcap, hp, hlim⟩ := hx
    obtain ⟨p', hp', hk', _⟩ := hrs.blk _ _ (hget _ _ hg)
    rw [hp] at hp'; cases hp'
    have hrun := bounds_run (C := C) (w := w) (isS := true) (m := cap) l1 l2 h1 h2 m1 m2 hl hh (.inl ⟨hmx, rfl⟩) hcnd.2.2.1 (by omega) (Nat.le_refl _)
    rw [hx]
    refine ⟨.slice (if cap = l then some ⟨p.blk, p.off + off * p.k, none⟩ else (some ⟨p.blk, p.off + off * p.k, none⟩ : Option Addr).map (·.add (l * (c.ty e).size))) (h - l) (cap - l), ?_, ?_⟩
    · simp only [Instr.sliceAt, Sem.run_bind, ty.run_underlying, Result.andThen_ok, Instr.slice, hrun, tye.run_sizeOf, Sem.run_pure]
    · split at hd
      · rename_i hlt
        simp at hd; subst hd
        simp only [VD]
        refine ⟨p, cap - l, ?_, by omega, hp, ?_⟩
        · rw [if_neg (by omega)]
          simp only [Option.map_some, add_none]
          have : p.off + off * p.k + l * (c.ty e).size = p.off + (off + l) * p.k := by rw [hcnd.1, ← hk', Nat.add_mul]; omega
          rw [this]
        · have : off + l + (cap - l) = off + cap := by omega
          rw [this]; exact hlim
      · simp at hd; subst hd
        simp only [VD, V]
        refine ⟨_, _, _, rfl, by simp; omega, by omega, fun e => by simp at e, .inr ?_⟩
        split
        · exact ⟨_, _, 0, rfl, by simp [Vs]⟩
        · exact ⟨_, _, 0, by simp [add_none]; exact ⟨rfl, rfl⟩, by simp [Vs]⟩
  · simp at hd

theorem sslice_ok (hc : CfgOk C.P c) {t : TypeId} (hk : (c.ty t).kind = .string) {v : Opd → D} {ρ : Operand → Value} (hv : ∀ x, VD M (v (opd x)) (ρ x)) {x : Operand} {lo hi : Option Operand} {d : D}
    (hd : ssliceD ((lo.map opd).map v) ((hi.map opd).map v) (v (opd x)) = some d) :
    ∃ r, (Instr.sliceAt t (ρ x) (lo.map ρ) (hi.map ρ) none).run C.P w = .ok r w ∧ VD M d r := by
  have hx := hv x
  obtain ⟨l1, l2⟩ := opt_val hv lo
  obtain ⟨h1, h2⟩ := opt_val hv hi
  unfold ssliceD at hd
  split at hd
  · rename_i s e1
    rw [e1] at hx
    simp only [VD, V] at hx
    simp only [Option.bind_eq_some_iff] at hd
    obtain ⟨l, hl, h, hh, hd⟩ := hd
    split at hd
    case isFalse => simp at hd
    rename_i hcnd
    simp at hd; subst hd
    obtain ⟨i, td, ty⟩ := hc.of_kind (t := t) (by rw [hk]; simp)
    have htd := ty.string hk
    subst htd
    have hrun := bounds_run (C := C) (w := w) (isS := false) (m := s.size) (mx := none) (mx' := none) l1 l2 h1 h2 (by simp) (by simp) hl hh (.inl ⟨rfl, rfl⟩) hcnd.1 hcnd.2 (Nat.le_refl _)
    rw [hx]
    refine ⟨.string (s.extract l h), ?_, by simp [VD, V]⟩
    simp only [Instr.sliceAt, Sem.run_bind, ty.run_underlying, Result.andThen_ok, Instr.slice, Option.isSome_none]
    simp
    rw [hrun]; rfl
  · simp at hd

theorem iaddr_run (hc : CfgOk C.P c) {t : TypeId} {e : Nat} (hk : (c.ty t).kind = .slice e) {k : IntKind} {i : Int} {b o len cap : Nat} (hi : 0 ≤ i) (hl : i < (len : Int)) (hs : (c.ty e).size ≠ 0) :
    (Instr.indexAt t (.slice (some ⟨b, o, none⟩) len cap) (.int k i)).run C.P w = .ok (.pointer (some ⟨b, o + i.toNat * (c.ty e).size, none⟩)) w := by
  obtain ⟨ie, de, tye⟩ := hc.of_size hs
  obtain ⟨it, td, ty⟩ := hc.of_kind (t := t) (by rw [hk]; simp)
  have htd := ty.slice hk
  subst htd
  simp [Instr.indexAt, asIntOf, ty.run_underlying, tye.run_sizeOf, hi, hl, add_none]

theorem elemPtr_ok (hc : CfgOk C.P c) {t : TypeId} {e : Nat} (hk : (c.ty t).kind = .slice e) {xs : List Dat} {fl : Bool} {u : Value} (hu : V M (.list xs fl) u) {k : IntKind} {i : Int} {d : D} (hs : (c.ty e).size ≠ 0)
    (hd : elemPtr (c.ty e).size xs i = some d) : ∃ r, (Instr.indexAt t u (.int k i)).run C.P w = .ok r w ∧ VD M d r := by
  unfold elemPtr at hd
  split at hd
  case isFalse => simp at hd
  rename_i hi
  simp only [Option.bind_eq_some_iff] at hd
  obtain ⟨x, hx, hd⟩ := hd
  split at hd
  case isFalse => simp at hd
  rename_i hxk
  simp at hd; subst hd
  have hlt : i.toNat < xs.length := by
    rcases Nat.lt_or_ge i.toNat xs.length with h | h
    · exact h
    · rw [List.getElem?_eq_none h] at hx; simp at hx
  simp only [V] at hu
  obtain ⟨base, len, cap, rfl, rfl, hcap, hfull, hbase⟩ := hu
  rcases hbase with ⟨rfl, hc0⟩ | ⟨b, o, k', rfl, hvs⟩
  · omega
  · refine ⟨_, iaddr_run hc hk hi (by omega) hs, ?_⟩
    obtain ⟨h1, h2⟩ := Vs_elem hvs hx (by intro e; rw [e] at hxk; simp at hxk; omega)
    simp only [VD, V]
    refine ⟨b, o + i.toNat * (c.ty e).size, by simp, ?_⟩
    rw [← hxk, h1]; exact h2

theorem iaddr_ok (hc : CfgOk C.P c) {t : TypeId} {e : Nat} (hk : (c.ty t).kind = .slice e) (hrs : RS C M g w) {get : Ref → Option Blk} (hget : ∀ r b, get r = some b → g r = some b) {x i : D} {u ui : Value} (hx : VD M x u) (hi : VD M i ui) {d : D} (hs : (c.ty e).size ≠ 0)
    (hd : iaddrD get (c.ty e).size x i = some d) : ∃ r, (Instr.indexAt t u ui).run C.P w = .ok r w ∧ VD M d r := by
  unfold iaddrD at hd
  split at hd
  · simp only [VD, V] at hi; subst hi
    simp only [VD] at hx
    exact elemPtr_ok hc hk hx hs hd
  · simp only [VD, V] at hi; subst hi
    exact elemPtr_ok hc hk (lst_list hx) hs hd
  · simp only [VD, V] at hi; subst hi
    split at hd
    case h_2 => simp at hd
    rename_i k' gg cs hg
    split at hd
    case isFalse => simp at hd
    rename_i hcnd
    simp at hd; subst hd
    simp only [VD] at hx
    obtain ⟨p, cap, rfl, hcap, hp, hlim⟩ := hx
    obtain ⟨p', hp', hk', _⟩ := hrs.blk _ _ (hget _ _ hg)
    rw [hp] at hp'; cases hp'
    refine ⟨_, iaddr_run hc hk hcnd.2.1 hcnd.2.2 hs, ?_⟩
    simp only [VD]
    refine ⟨p, hp, ?_⟩
    rw [hcnd.1, ← hk', Nat.add_mul, Nat.add_assoc]
  · simp at hd

theorem aaddr_ok (hc : CfgOk C.P c) {t : TypeId} {n e : Nat} (hk : (c.ty t).kind = .array n e) {x i : D} {u ui : Value} (hx : VD M x u) (hi : VD M i ui) {d : D} (hs : (c.ty e).size ≠ 0)
    (hd : aaddrD (c.ty e).size n x i = some d) : ∃ r, (Instr.indexAt t u ui).run C.P w = .ok r w ∧ VD M d r := by
  obtain ⟨ie, de, tye⟩ := hc.of_size hs
  obtain ⟨it, td, ty⟩ := hc.of_kind (t := t) (by rw [hk]; simp)
  have htd := ty.array hk
  subst htd
  unfold aaddrD at hd
  split at hd
  · simp only [VD, V] at hi hx; subst hi
    obtain ⟨b, o, rfl, hv⟩ := hx
    split at hd
    case isFalse => simp at hd
    rename_i hcnd
    simp at hd; subst hd
    refine ⟨.pointer (some ⟨b, o + (_ + _), none⟩), ?_, by simp only [VD, V]; exact ⟨b, o, rfl, hv⟩⟩
    simp [Instr.indexAt, asIntOf, ty.run_underlying, tye.run_sizeOf, hcnd.1, hcnd.2, Instr.sureAddr, add_none, Nat.add_assoc]
  · simp only [VD, V] at hi; subst hi
    simp only [VD] at hx
    obtain ⟨p, hp, rfl⟩ := hx
    split at hd
    case isFalse => simp at hd
    rename_i hcnd
    simp at hd; subst hd
    refine ⟨.pointer (some ⟨p.blk, p.off + (_ + _), none⟩), ?_, by simp only [VD]; exact ⟨p, hp, rfl⟩⟩
    simp [Instr.indexAt, asIntOf, ty.run_underlying, tye.run_sizeOf, hcnd.1, hcnd.2, Instr.sureAddr, add_none, Nat.add_assoc]
  · simp at hd

theorem idxs_ok (hc : CfgOk C.P c) {t : TypeId} (hk : (c.ty t).kind = .string) {x i : D} {u ui : Value} (hx : VD M x u) (hi : VD M i ui) {d : D}
    (hd : idxsD x i = some d) : ∃ r, (Instr.index t u ui).run C.P w = .ok r w ∧ VD M d r := by
  obtain ⟨it, td, ty⟩ := hc.of_kind (t := t) (by rw [hk]; simp)
  have htd := ty.string hk
  subst htd
  unfold idxsD at hd
  split at hd
  · rename_i s k i
    simp only [VD, V] at hi hx; subst hi hx
    split at hd
    case isFalse => simp at hd
    rename_i hi0
    simp only [Option.map_eq_some_iff] at hd
    obtain ⟨b, hb, rfl⟩ := hd
    have hlt : i.toNat < s.data.size := by
      rcases Nat.lt_or_ge i.toNat s.data.size with h | h
      · exact h
      · rw [Array.getElem?_eq_none h] at hb; simp at hb
    have hb' : s[i.toNat]? = some b := by
      have e : s.data[i.toNat] = b := by rw [Array.getElem?_eq_getElem hlt] at hb; simpa using hb
      have hlt' : i.toNat < s.size := hlt
      rw [getElem?_pos s i.toNat hlt']
      exact congrArg some e
    refine ⟨.int .u8 b.toNat, ?_, by simp [VD, V]⟩
    simp [Instr.index, asIntOf, ty.run_underlying, hi0, hb']
  · simp at hd

theorem faddr_ok (hc : CfgOk C.P c) {t : TypeId} {fs : List (Nat × Nat)} (hk : (c.ty t).kind = .struct fs) {f : Nat} {p : Nat × Nat} (hf : fs[f]? = some p) (hs : (c.ty p.2).size ≠ 0) {x : D} {u : Value} (hx : VD M x u) {d : D}
    (hd : faddrD p.1 x = some d) : ∃ r, (Instr.fieldAt t u f).run C.P w = .ok r w ∧ VD M d r := by
  obtain ⟨ie, de, tye⟩ := hc.of_size hs
  obtain ⟨it, td, ty⟩ := hc.of_kind (t := t) (by rw [hk]; simp)
  obtain ⟨fa, rfl, rfl⟩ := ty.struct hk
  simp only [List.getElem?_map, Option.map_eq_some_iff, Array.getElem?_toList] at hf
  obtain ⟨fd, hfd, rfl⟩ := hf
  have hrun : ∀ b o, (Instr.fieldAt t (.pointer (some ⟨b, o, none⟩)) f).run C.P w = .ok (.pointer (some ⟨b, o + fd.offset, none⟩)) w := by
    intro b o
    simp [Instr.fieldAt, ty.run_underlying, hfd, Instr.sureAddr, fieldPlace, tye.run_sizeOf, hs, add_none]
  unfold faddrD at hd
  split at hd
  · simp at hd; subst hd
    simp only [VD, V] at hx
    obtain ⟨b, o, rfl, hv⟩ := hx
    refine ⟨_, hrun _ _, ?_⟩
    simp only [VD, V]
    exact ⟨b, o, by rw [Nat.add_assoc], hv⟩
  · simp at hd; subst hd
    simp only [VD] at hx
    obtain ⟨p, hp, rfl⟩ := hx
    refine ⟨_, hrun _ _, ?_⟩
    simp only [VD]
    exact ⟨p, hp, by rw [Nat.add_assoc]⟩
  · simp at hd

theorem field_ok (hc : CfgOk C.P c) {t : TypeId} {fs : List (Nat × Nat)} (hk : (c.ty t).kind = .struct fs) {f : Nat} {p : Nat × Nat} (hf : fs[f]? = some p) {x : D} {u : Value} (hx : VD M x u) {d : D}
    (hd : fieldD (c.ty p.2).agg p.1 (c.ty p.2).size x = some d) : ∃ r, (Instr.field t u f).run C.P w = .ok r w ∧ VD M d r := by
  obtain ⟨it, td, ty⟩ := hc.of_kind (t := t) (by rw [hk]; simp)
  obtain ⟨fa, rfl, rfl⟩ := ty.struct hk
  simp only [List.getElem?_map, Option.map_eq_some_iff, Array.getElem?_toList] at hf
  obtain ⟨fd, hfd, rfl⟩ := hf
  have key : ∀ (a : Array Value) (cs : List D), Cs M (fun j => a[j]?) cs → ld (c.ty fd.type).agg (c.ty fd.type).size fd.offset cs = some d → cs.length = a.size → ∃ r, (Instr.field t (.agg a) f).run C.P w = .ok r w ∧ VD M d r := by
    intro a cs hcs hl hlen
    obtain ⟨h1, h2⟩ := ld_ok hcs hl
    have hty : ∃ i d, Ty C.P fd.type (c.ty fd.type) i d := by
      rcases hc.get fd.type with e | e
      · rw [e] at h2
        obtain ⟨h3, _⟩ := h2 rfl
        simp [default_size] at h3
      · exact e
    obtain ⟨i, td, tyf⟩ := hty
    cases hagg : (c.ty fd.type).agg with
    | true =>
      obtain ⟨vs, h3, h4, h5⟩ := h1 hagg
      refine ⟨_, ?_, h5⟩
      simp only [Instr.field, Sem.run_bind, ty.run_underlying, Result.andThen_ok, hfd, asAgg, Sem.run_pure, part, tyf.run_isAgg, hagg, if_true, tyf.run_sizeOf]
      congr 2
      unfold ld at hl
      split at hl
      case isFalse => simp at hl
      rename_i hle
      apply Array.ext'
      apply List.ext_getElem?
      intro j
      simp only [Array.toList_extract, List.extract_eq_take_drop, List.getElem?_take, List.getElem?_drop]
      by_cases hj : j < (c.ty fd.type).size
      · have := h4 j hj
        simp only [Array.getElem?_toList]
        rw [if_pos (by omega)]; exact this
      · rw [if_neg (by omega)]
        rw [List.getElem?_eq_none (by omega)]
    | false =>
      obtain ⟨h3, u, h4, h5, h6⟩ := h2 hagg
      refine ⟨u, ?_, h6⟩
      simp [Instr.field, ty.run_underlying, hfd, asAgg, part, tyf.run_isAgg, hagg]
      rw [h4]; rfl
  unfold fieldD at hd
  split at hd
  · rename_i cs
    simp only [VD] at hx
    have h' := hx
    simp only [V] at h'
    obtain ⟨a, rfl, h1, h2⟩ := h'
    by_cases hn : cs = []
    · subst hn
      refine key a _ ?_ hd ?_
      · intro j c hj; simp at hj
      · have := (Vl_get h1).1; simpa using this
    · obtain ⟨h3, h4⟩ := V_cells hx (by simpa [Dat.cells] using hn)
      exact key a _ (by simpa [Dat.cells, Value.cells] using h4) hd (by simpa [Dat.cells, Value.cells] using h3)
  · rename_i cs
    have h' := hx
    simp only [VD] at h'
    obtain ⟨a, rfl, h1, h2⟩ := h'
    obtain ⟨h3, h4⟩ := VDl_get h1
    refine key a _ ?_ hd (by simpa using h3)
    intro j c hj
    obtain ⟨v, e1, e2⟩ := h4 j c hj
    exact ⟨v, by simpa using e1, h2 v (List.mem_of_getElem? e1), e2⟩
  · simp at hd

theorem ext_ok {x : D} {u : Value} (hx : VD M x u) {i : Nat} {d : D} (hd : extD i x = some d) : ∃ r, (Instr.extract u i).run C.P w = .ok r w ∧ VD M d r := by
  unfold extD at hd
  split at hd
  · simp only [Option.map_eq_some_iff] at hd
    obtain ⟨y, hy, rfl⟩ := hd
    simp only [VD, V] at hx
    obtain ⟨a, rfl, h1⟩ := hx
    obtain ⟨v, e1, e2⟩ := (Vl_get h1).2 _ _ hy
    have e1' : a[i]? = some v := by simpa using e1
    exact ⟨v, by simp [Instr.extract, e1'], by simpa [VD] using e2⟩
  · simp only [VD] at hx
    obtain ⟨a, rfl, h1⟩ := hx
    obtain ⟨v, e1, e2⟩ := (VDl_get h1).2 _ _ hd
    have e1' : a[i]? = some v := by simpa using e1
    exact ⟨v, by simp [Instr.extract, e1'], e2⟩
  · simp at hd

end
end Go.Abs

/- The abstract layer, part 14: comparison, cell by cell. No conditions. -/
namespace Go.Abs
open Go.RowKit

def eqV : KC → Value → Value → Option Bool
  | .i, .int k a, .int k' b => if k = k' then some (decide (a = b)) else none
  | .b, .bool a, .bool b => some (a == b)
  | .s, .string a, .string b => some (decide (a = b))
  | _, _, _ => none

theorem eqC_V {M : Mem} {q : KC} {x y : Dat} {u v : Value} {b : Bool} (hx : V M x u) (hy : V M y v) (h : eqC q x y = some b) : eqV q u v = some b := by
  unfold eqC at h
  split at h
  · simp only [V] at hx hy; subst hx hy; exact h
  · simp only [V] at hx hy; subst hx hy; exact h
  · simp only [V] at hx hy; subst hx hy; exact h
  · simp at h

/-- A part of some cells, as a value. -/
def PartOf (P : Program) (t : TypeId) (X : Array Value) (v : Value) : Prop :=
  match P.underlying t with
  | some (.struct _) => v = .agg X
  | some (.array _ _) => False
  | _ => X[0]? = some v

theorem mapM_flat {α β : Type} (f : α → Option (List β)) : ∀ (l : List α) (r : List (List β)), l.mapM f = some r → r.length = l.length ∧ ∀ (j : Nat) a, l[j]? = some a → ∃ x, r[j]? = some x ∧ f a = some x
  | [], r, h => by simp at h; subst h; exact ⟨rfl, fun j a h => by simp at h⟩
  | a :: l, r, h => by
    rw [List.mapM_cons] at h
    simp only [Option.bind_eq_bind, Option.bind_eq_some_iff, Option.pure_def, Option.some.injEq] at h
    obtain ⟨x, hx, r', hr', rfl⟩ := h
    obtain ⟨h1, h2⟩ := mapM_flat f l r' hr'
    refine ⟨by simp [h1], fun j b hj => ?_⟩
    cases j with
    | zero => simp at hj; subst hj; exact ⟨x, by simp, hx⟩
    | succ j => simpa using h2 j b (by simpa using hj)

theorem leaves_in {P : Program} : ∀ (n : Nat) (t : TypeId) (o : Nat) L, leaves P n t o = some L → ∀ p ∈ L, o ≤ p.1 ∧ p.1 < o + P.cellsOf t := by
  intro n
  induction n with
  | zero => intro t o L h; simp [leaves] at h
  | succ n ih =>
    intro t o L h p hp
    simp only [leaves] at h
    split at h
    · simp at h
    · rename_i hc
      split at h
      · simp at h; subst h; simp at hp; subst hp; exact ⟨Nat.le_refl _, by simp; omega⟩
      · simp at h; subst h; simp at hp; subst hp; exact ⟨Nat.le_refl _, by simp; omega⟩
      · simp at h; subst h; simp at hp; subst hp; exact ⟨Nat.le_refl _, by simp; omega⟩
      · split at h
        · simp at h
        · simp only [Option.map_eq_some_iff] at h
          obtain ⟨r, hr, rfl⟩ := h
          obtain ⟨h1, h2⟩ := mapM_flat _ _ _ hr
          rw [List.mem_flatten] at hp
          obtain ⟨l, hl, hpl⟩ := hp
          obtain ⟨j, hj, e⟩ := List.getElem_of_mem hl
          have hj' : j < r.length := hj
          obtain ⟨x, e1, e2⟩ := h2 j _ (List.getElem?_eq_getElem (by omega))
          rw [List.getElem?_eq_getElem hj'] at e1
          simp at e1
          have : x = l := by rw [← e1, e]
          subst this
          split at e2
          · simp at e2
          · rename_i hne
            obtain ⟨a, b⟩ := ih _ _ _ e2 p hpl
            have : ¬ (P.cellsOf t < _ + _) := fun h => hne (.inr h)
            omega
      · simp at h

section
variable {P : Program} {w : World}

theorem run_part {t : TypeId} {X : Array Value} {off n : Nat} {L : List (Nat × KC)} {o : Nat} (hL : leaves P n t o = some L) (hcells : ∀ j, j < P.cellsOf t → (X[off + j]?).isSome) :
    ∃ v, (part t X off).run P w = .ok v w ∧ PartOf P t (X.extract off (off + P.cellsOf t)) v := by
  have hlt : ∀ j, j < P.cellsOf t → off + j < X.size := fun j hj => by
    have := hcells j hj
    rcases Nat.lt_or_ge (off + j) X.size with h | h
    · exact h
    · rw [Array.getElem?_eq_none h] at this; simp at this
  cases n with
  | zero => simp [leaves] at hL
  | succ n =>
    simp only [leaves] at hL
    split at hL
    · simp at hL
    · rename_i hc
      have hinfo : ∃ i, P.info? t = some i ∧ P.cellsOf t = i.size := by
        unfold Program.cellsOf at hc ⊢
        cases e : P.info? t with
        | none => rw [e] at hc; simp at hc
        | some i => exact ⟨i, rfl, by simp⟩
      obtain ⟨i, hi, hsz⟩ := hinfo
      have hr : (sizeOf t).run P w = .ok (P.cellsOf t) w := by simp [sizeOf, typeInfo, hi, hsz]
      have prim : ∀ d, P.underlying t = some d → (∀ fs, d ≠ .struct fs) → (∀ m e, d ≠ .array m e) → ∃ v, (part t X off).run P w = .ok v w ∧ PartOf P t (X.extract off (off + P.cellsOf t)) v := by
        intro d hd h1 h2
        have h0 := hlt 0 (by omega)
        refine ⟨X[off], ?_, ?_⟩
        · have : (isAgg t).run P w = .ok false w := by
            simp only [isAgg, Sem.run_bind, underlying, run_program, Result.andThen_ok, hd, Sem.run_pure]
            all_goals (cases d <;> first | rfl | (exact (h1 _ rfl).elim) | (exact (h2 _ _ rfl).elim))
          simp only [part, Sem.run_bind, this, Result.andThen_ok]
          have e : X[off]? = some X[off] := Array.getElem?_eq_getElem h0
          simp [e]
        · unfold PartOf
          rw [hd]
          have e : (X.extract off (off + P.cellsOf t))[0]? = some X[off] := by
            rw [Array.getElem?_extract, if_pos (by omega)]; simp [h0]
          cases d <;> first | (exact (h1 _ rfl).elim) | (exact (h2 _ _ rfl).elim) | exact e
      split at hL
      · rename_i hd; exact prim _ hd (by simp) (by simp)
      · rename_i hd; exact prim _ hd (by simp) (by simp)
      · rename_i hd; exact prim _ hd (by simp) (by simp)
      · rename_i fs hd
        refine ⟨.agg (X.extract off (off + P.cellsOf t)), ?_, ?_⟩
        · have : (isAgg t).run P w = .ok true w := by simp [isAgg, underlying, hd]
          simp [part, this, hr]
        · unfold PartOf; rw [hd]
      · simp at hL

theorem eqFields_ok {d : Nat} {X Y : Array Value} {bits : Nat × KC → Bool} : ∀ (fs : List Field) (r : List (List (Nat × KC))), r.length = fs.length →
    (∀ (j : Nat) f l, fs[j]? = some f → r[j]? = some l → f.name ≠ "_" ∧ ∃ a b, (part f.type X f.offset).run P w = .ok a w ∧ (part f.type Y f.offset).run P w = .ok b w ∧ (Op.equalIn d f.type a b).run P w = .ok (l.all bits) w) →
    (Op.eqFields d X Y fs).run P w = .ok (r.flatten.all bits) w
  | [], [], _, _ => by simp [Op.eqFields]
  | [], _ :: _, h, _ => by simp at h
  | _ :: _, [], h, _ => by simp at h
  | f :: fs, l :: r, hl, h => by
    obtain ⟨h0, a, b, h1, h2, h3⟩ := h 0 f l (by simp) (by simp)
    have ih := eqFields_ok (d := d) (X := X) (Y := Y) (bits := bits) fs r (by simpa using hl) (fun j f' l' e1 e2 => h (j + 1) f' l' (by simpa using e1) (by simpa using e2))
    simp only [Op.eqFields, h0, ne_eq, not_false_eq_true, if_true, Sem.run_bind, h1, Result.andThen_ok, h2, h3]
    cases e : l.all bits with
    | true => simp [ih, e]
    | false => simp [e]

theorem equalIn_ok : ∀ (n : Nat) (t : TypeId) (o : Nat) L, leaves P n t o = some L → ∀ (d : Nat), n ≤ d → ∀ (X Y : Array Value) (bits : Nat × KC → Bool),
    (∀ j, j < P.cellsOf t → (X[j]?).isSome ∧ (Y[j]?).isSome) → (∀ p ∈ L, ∃ x y, X[p.1 - o]? = some x ∧ Y[p.1 - o]? = some y ∧ eqV p.2 x y = some (bits p)) → ∀ vx vy, PartOf P t X vx → PartOf P t Y vy →
    (Op.equalIn d t vx vy).run P w = .ok (L.all bits) w := by
  intro n
  induction n with
  | zero => intro t o L h; simp [leaves] at h
  | succ n ih =>
    intro t o L h d hd X Y bits hcells hbits vx vy hvx hvy
    obtain ⟨d, rfl⟩ : ∃ m, d = m + 1 := ⟨d - 1, by omega⟩
    simp only [leaves] at h
    split at h
    · simp at h
    · rename_i hc
      split at h
      · rename_i hu
        simp at h; subst h
        obtain ⟨x, y, h1, h2, h3⟩ := hbits (o, .b) (by simp)
        simp only [Nat.sub_self] at h1 h2
        simp only [PartOf, hu] at hvx hvy
        rw [hvx] at h1; rw [hvy] at h2
        simp at h1 h2; subst h1 h2
        cases vx <;> cases vy <;> simp only [eqV, reduceCtorEq, Option.some.injEq] at h3
        rw [run_equalIn_bool' w d t _ _ hu]; simp only [List.all_cons, List.all_nil, Bool.and_true, ← h3]
      · rename_i k hu
        simp at h; subst h
        obtain ⟨x, y, h1, h2, h3⟩ := hbits (o, .i) (by simp)
        simp only [Nat.sub_self] at h1 h2
        simp only [PartOf, hu] at hvx hvy
        rw [hvx] at h1; rw [hvy] at h2
        simp at h1 h2; subst h1 h2
        cases vx <;> cases vy <;> simp only [eqV, reduceCtorEq] at h3
        split at h3
        · rename_i e; subst e
          simp at h3
          rw [run_equalIn_int w d t _ _ _ _ hu]; simp only [List.all_cons, List.all_nil, Bool.and_true, ← h3]; rfl
        · simp at h3
      · rename_i hu
        simp at h; subst h
        obtain ⟨x, y, h1, h2, h3⟩ := hbits (o, .s) (by simp)
        simp only [Nat.sub_self] at h1 h2
        simp only [PartOf, hu] at hvx hvy
        rw [hvx] at h1; rw [hvy] at h2
        simp at h1 h2; subst h1 h2
        cases vx <;> cases vy <;> simp only [eqV, reduceCtorEq, Option.some.injEq] at h3
        rw [run_equalIn_string w d t _ _ hu, elem_dec]; simp only [List.all_cons, List.all_nil, Bool.and_true, ← h3]
      · rename_i fs hu
        split at h
        · simp at h
        · rename_i hst
          simp only [Option.map_eq_some_iff] at h
          obtain ⟨r, hr, rfl⟩ := h
          obtain ⟨h1, h2⟩ := mapM_flat _ _ _ hr
          simp only [PartOf, hu] at hvx hvy
          subst hvx hvy
          have hfs : P.fieldsOf t = fs := by unfold Program.fieldsOf; rw [hu]
          rw [run_equalIn_agg w d t X Y (by rw [hfs]; exact hu) (by simpa using hst), hfs]
          refine eqFields_ok _ r h1 fun j f l hf hl => ?_
          obtain ⟨l', e1, e2⟩ := h2 j f hf
          rw [hl] at e1
          cases e1
          split at e2
          · simp at e2
          · rename_i hne
            have hn : f.name ≠ "_" := fun e => hne (.inl e)
            have hsz : f.offset + P.cellsOf f.type ≤ P.cellsOf t := by
              have : ¬ (P.cellsOf t < f.offset + P.cellsOf f.type) := fun e => hne (.inr e)
              omega
            obtain ⟨a, ha, pa⟩ := run_part (w := w) (X := X) (off := f.offset) e2 (fun j hj => (hcells _ (by omega)).1)
            obtain ⟨b, hb, pb⟩ := run_part (w := w) (X := Y) (off := f.offset) e2 (fun j hj => (hcells _ (by omega)).2)
            refine ⟨hn, a, b, ha, hb, ?_⟩
            have ext : ∀ (Z : Array Value) (j : Nat), (∀ j, j < P.cellsOf t → (Z[j]?).isSome) → j < P.cellsOf f.type → (Z.extract f.offset (f.offset + P.cellsOf f.type))[j]? = Z[f.offset + j]? := by
              intro Z j hZ hj
              rw [Array.getElem?_extract]
              have hlt : f.offset + P.cellsOf f.type ≤ Z.size := by
                have := hZ (f.offset + P.cellsOf f.type - 1) (by omega)
                rcases Nat.lt_or_ge (f.offset + P.cellsOf f.type - 1) Z.size with h | h
                · omega
                · rw [Array.getElem?_eq_none h] at this; simp at this
              rw [if_pos (by omega)]
            refine ih f.type (o + f.offset) l e2 d (by omega) _ _ bits (fun j hj => ?_) (fun p hp => ?_) a b pa pb
            · rw [ext X j (fun j hj => (hcells j hj).1) hj, ext Y j (fun j hj => (hcells j hj).2) hj]
              exact hcells _ (by omega)
            · obtain ⟨q1, q2⟩ := leaves_in n f.type _ l e2 p hp
              obtain ⟨x, y, g1, g2, g3⟩ := hbits p (List.mem_flatten.2 ⟨l, List.mem_of_getElem? hl, hp⟩)
              have e : p.1 - o = f.offset + (p.1 - (o + f.offset)) := by omega
              refine ⟨x, y, ?_, ?_, g3⟩
              · rw [ext X _ (fun j hj => (hcells j hj).1) (by omega), ← e]; exact g1
              · rw [ext Y _ (fun j hj => (hcells j hj).2) (by omega), ← e]; exact g2
      · simp at h

end
end Go.Abs

/- The abstract layer, part 15: structs compared, maps looked into. No conditions. -/
namespace Go.Abs
open Go.RowKit

theorem eqCs_len : ∀ {ks : List KC} {xs ys : List Dat} {b : Bool}, eqCs ks xs ys = some b → xs.length = ks.length ∧ ys.length = ks.length
  | [], [], [], _, _ => ⟨rfl, rfl⟩
  | [], _ :: _, _, _, h => by simp [eqCs] at h
  | [], [], _ :: _, _, h => by simp [eqCs] at h
  | _ :: _, [], _, _, h => by simp [eqCs] at h
  | _ :: _, _ :: _, [], _, h => by simp [eqCs] at h
  | k :: ks, x :: xs, y :: ys, b, h => by
    simp only [eqCs] at h
    split at h
    · rename_i a b' e1 e2
      obtain ⟨h1, h2⟩ := eqCs_len e2
      simp [h1, h2]
    · simp at h
theorem eqCs_at : ∀ {ks : List KC} {xs ys : List Dat} {b : Bool}, eqCs ks xs ys = some b → ∀ (j : Nat) k, ks[j]? = some k → ∃ x y c, xs[j]? = some x ∧ ys[j]? = some y ∧ eqC k x y = some c
  | [], [], [], _, _ => fun j k h => by simp at h
  | [], _ :: _, _, _, h => by simp [eqCs] at h
  | [], [], _ :: _, _, h => by simp [eqCs] at h
  | _ :: _, [], _, _, h => by simp [eqCs] at h
  | _ :: _, _ :: _, [], _, h => by simp [eqCs] at h
  | k :: ks, x :: xs, y :: ys, b, h => by
    simp only [eqCs] at h
    split at h
    · rename_i a b' e1 e2
      intro j k' hj
      cases j with
      | zero => simp at hj; subst hj; exact ⟨x, y, a, by simp, by simp, e1⟩
      | succ j => simpa using eqCs_at e2 j k' (by simpa using hj)
    · simp at h
theorem eqCs_all {bits : Nat × KC → Bool} : ∀ {ks : List KC} {xs ys : List Dat} {b : Bool} {s : Nat}, eqCs ks xs ys = some b →
    (∀ (j : Nat) k x y c, ks[j]? = some k → xs[j]? = some x → ys[j]? = some y → eqC k x y = some c → bits (s + j, k) = c) → ((List.range' s ks.length).zip ks).all bits = b
  | [], [], [], _, _, h, _ => by simp [eqCs] at h; simp [h]
  | [], _ :: _, _, _, _, h, _ => by simp [eqCs] at h
  | [], [], _ :: _, _, _, h, _ => by simp [eqCs] at h
  | _ :: _, [], _, _, _, h, _ => by simp [eqCs] at h
  | _ :: _, _ :: _, [], _, _, h, _ => by simp [eqCs] at h
  | k :: ks, x :: xs, y :: ys, b, s, h, hb => by
    simp only [eqCs] at h
    split at h
    · rename_i a b' e1 e2
      simp at h
      have h0 := hb 0 k x y a (by simp) (by simp) (by simp) e1
      have ih := eqCs_all (s := s + 1) e2 (fun j k' x' y' c g1 g2 g3 g4 => by
        have := hb (j + 1) k' x' y' c (by simpa using g1) (by simpa using g2) (by simpa using g3) g4
        rw [← this]; congr 2; omega)
      simp only [List.length_cons, List.range'_succ, List.zip_cons_cons, List.all_cons, ih]
      rw [← h]; congr 1
    · simp at h

section
variable {C : Ctx} {c : Cfg} {M : Mem} {g : Ref → Option Blk} {w : World}

/-- Two structs, cell by cell, at the machine. -/
theorem equal_struct {P : Program} {t : TypeId} {i : TypeInfo} (hi : P.info? t = some i) {fs : Array Field} (hu : P.underlying t = some (.struct fs)) {ks : List KC} (hl : lvOf P t i.size = some ks) {xs ys : List Dat} {a b : Array Value} (ha : Vl M xs a.toList) (hb : Vl M ys b.toList) {r : Bool} (h : eqCs ks xs ys = some r)
    {d : Nat} (hd : 10 ≤ d) : (Op.equalIn d t (.agg a) (.agg b)).run P w = .ok r w ∧ P.eqGuardType P.depth t = false := by
  unfold lvOf at hl
  simp only [Option.bind_eq_some_iff] at hl
  obtain ⟨L, hL, hl⟩ := hl
  split at hl
  case isFalse => simp at hl
  rename_i hc
  simp at hl
  have hsz : P.cellsOf t = i.size := by simp [Program.cellsOf, hi]
  obtain ⟨n1, n2⟩ := eqCs_len h
  obtain ⟨l1, l2⟩ := Vl_get ha
  obtain ⟨m1, m2⟩ := Vl_get hb
  simp at l1 m1
  have hLk : L.length = ks.length := by rw [← hl]; simp
  have hLn : L.length = i.size := by have := congrArg List.length hc.1; simpa using this
  have hLz : L = (List.range' 0 ks.length).zip ks := by
    have : L = (L.map (·.1)).zip (L.map (·.2)) := by
      have := List.zip_unzip L
      rw [List.unzip_eq_map] at this
      exact this.symm
    rw [hc.1, hl, List.range_eq_range'] at this
    rw [this, ← hLk, hLn]
  refine ⟨?_, hc.2⟩
  let bits : Nat × KC → Bool := fun p => match a[p.1]?, b[p.1]? with | some x, some y => (eqV p.2 x y).getD false | _, _ => false
  have hbit : ∀ (j : Nat) k, ks[j]? = some k → ∃ x y, a[j]? = some x ∧ b[j]? = some y ∧ eqV k x y = some (bits (j, k)) ∧ ∀ X Y c, xs[j]? = some X → ys[j]? = some Y → eqC k X Y = some c → bits (j, k) = c := by
    intro j k hj
    obtain ⟨X, Y, c, e1, e2, e3⟩ := eqCs_at h j k hj
    obtain ⟨x, g1, g2⟩ := l2 j X e1
    obtain ⟨y, g3, g4⟩ := m2 j Y e2
    have g1' : a[j]? = some x := by simpa using g1
    have g3' : b[j]? = some y := by simpa using g3
    have hb0 : bits (j, k) = c := by simp only [bits, g1', g3', eqC_V g2 g4 e3, Option.getD_some]
    refine ⟨x, y, g1', g3', by rw [hb0]; exact eqC_V g2 g4 e3, fun X' Y' c' h1 h2 h3 => ?_⟩
    rw [e1] at h1; rw [e2] at h2
    cases h1; cases h2
    rw [e3] at h3; cases h3
    exact hb0
  rw [equalIn_ok (w := w) 10 t 0 L hL d hd a b bits (fun j hj => ?_) (fun p hp => ?_) (.agg a) (.agg b) (by simp [PartOf, hu]) (by simp [PartOf, hu])]
  · rw [hLz, eqCs_all h (fun j k X Y c h1 h2 h3 h4 => ?_)]
    obtain ⟨_, _, _, _, _, h5⟩ := hbit j k h1
    rw [Nat.zero_add]
    exact h5 X Y c h2 h3 h4
  · have h1 : j < a.size := by omega
    have h2 : j < b.size := by omega
    simp [h1, h2]
  · rw [hLz] at hp
    obtain ⟨j, hj, e⟩ := List.getElem_of_mem hp
    simp only [List.getElem_zip, List.getElem_range'] at e
    have hj' : j < ks.length := by simp at hj; omega
    obtain ⟨x, y, h1, h2, h3, _⟩ := hbit j ks[j] (List.getElem?_eq_getElem hj')
    rw [← e]
    simp only [Nat.zero_add, Nat.one_mul, Nat.sub_zero]
    exact ⟨x, y, h1, h2, h3⟩

theorem Ty.lvs {t : TypeId} {ti : TI} {i : TypeInfo} {d : TypeDesc} {P : Program} (h : Ty P t ti i d) {ks : List KC} (hl : ti.lv = some ks) : lvOf P t i.size = some ks := by rw [← h.lv]; exact hl

theorem eqs_ok (hc : CfgOk C.P c) {t : TypeId} {fs : List (Nat × Nat)} (hk : (c.ty t).kind = .struct fs) {ks : List KC} (hl : (c.ty t).lv = some ks) {neg : Bool} {x y : Operand} {a b d : D} {u u' : Value} (ha : VD M a u) (hb : VD M b u') (hd : eqsD neg ks a b = some d) :
    ∃ r, (do eqGuard (if neg then .neq else .eql) t x y u u'; binOp (if neg then .neq else .eql) t u u' : Sem Value).run C.P w = .ok r w ∧ VD M d r := by
  obtain ⟨i, td, ty⟩ := hc.of_kind (t := t) (by rw [hk]; simp)
  obtain ⟨fa, rfl, rfl⟩ := ty.struct hk
  unfold eqsD at hd
  split at hd
  · simp only [VD, V] at ha hb
    obtain ⟨p, rfl, h1, h2⟩ := ha
    obtain ⟨q, rfl, h3, h4⟩ := hb
    simp only [Option.map_eq_some_iff] at hd
    obtain ⟨r, hr, rfl⟩ := hd
    obtain ⟨h5, h6⟩ := equal_struct (w := w) ty.info ty.und (ty.lvs hl) h1 h3 hr (d := 10000) (by omega)
    cases neg with
    | true => exact ⟨_, by simp only [if_true, Sem.run_bind, run_eqGuard_agg _ _ _ _ _ _ _ h6, Result.andThen_ok, run_neq_struct, h5]; rfl, by simp [VD, V]⟩
    | false => exact ⟨_, by simp only [Bool.false_eq_true, if_false, Sem.run_bind, run_eqGuard_agg _ _ _ _ _ _ _ h6, Result.andThen_ok, run_eql_struct, h5]; rfl, by simp [VD, V]⟩
  · simp at hd

theorem eqb_ok (hc : CfgOk C.P c) {t : TypeId} (hk : (c.ty t).kind = .bool) {neg : Bool} {x y : Operand} {a b d : D} {u u' : Value} (ha : VD M a u) (hb : VD M b u') (hd : eqbD neg a b = some d) :
    ∃ r, (do eqGuard (if neg then .neq else .eql) t x y u u'; binOp (if neg then .neq else .eql) t u u' : Sem Value).run C.P w = .ok r w ∧ VD M d r := by
  obtain ⟨i, td, ty⟩ := hc.of_kind (t := t) (by rw [hk]; simp)
  have htd : td = .bool := by have := ty.kind; rw [hk] at this; cases td <;> simp [kindOf] at this; rfl
  subst htd
  unfold eqbD at hd
  split at hd
  · simp only [VD, V] at ha hb
    subst ha hb
    simp at hd; subst hd
    cases neg with
    | true => exact ⟨_, by simp only [if_true, Sem.run_bind, eqGuard]; simp [run_neq_bool _ _ _ _ ty.und]; rfl, by simp [VD, V]⟩
    | false => exact ⟨_, by simp only [Bool.false_eq_true, if_false, Sem.run_bind, eqGuard]; simp [run_eql_bool _ _ _ _ ty.und]; rfl, by simp [VD, V]⟩
  · simp at hd

end
end Go.Abs

/- The abstract layer, part 16: keys of maps at the machine. No conditions. -/
namespace Go.Abs
open Go.RowKit

section
variable {P : Program} {w : World}

theorem checkFields {em : Bool} {d : Nat} {X : Array Value} : ∀ (fs : List Field), (∀ f ∈ fs, ∃ a, (part f.type X f.offset).run P w = .ok a w ∧ (Instr.checkKey em d f.type a).run P w = .ok () w) →
    (forIn fs PUnit.unit (fun f _ => do
      if f.name ≠ "_" then
        Instr.checkKey em d f.type (← part f.type X f.offset)
        pure (ForInStep.yield PUnit.unit)
      else pure (ForInStep.yield PUnit.unit)) : Sem PUnit).run P w = .ok () w
  | [], _ => rfl
  | f :: fs, h => by
    obtain ⟨a, h1, h2⟩ := h f (by simp)
    have ih := checkFields (em := em) (d := d) (X := X) fs (fun f' hf => h f' (by simp [hf]))
    simp only [List.forIn_cons, Sem.run_bind, Sem.run_ite]
    split
    · simp only [h1, Result.andThen_ok, h2, Sem.run_pure]; exact ih
    · simp only [Sem.run_pure, Result.andThen_ok]; exact ih

theorem checkKey_ok {em : Bool} : ∀ (n : Nat) (t : TypeId) (o : Nat) L, leaves P n t o = some L → ∀ (d : Nat), n ≤ d → ∀ (X : Array Value), (∀ j, j < P.cellsOf t → (X[j]?).isSome) → ∀ v, PartOf P t X v →
    (Instr.checkKey em d t v).run P w = .ok () w := by
  intro n
  induction n with
  | zero => intro t o L h; simp [leaves] at h
  | succ n ih =>
    intro t o L h d hd X hcells v hv
    obtain ⟨d, rfl⟩ : ∃ m, d = m + 1 := ⟨d - 1, by omega⟩
    simp only [leaves] at h
    split at h
    · simp at h
    · rename_i hc
      split at h
      · rename_i hu; simp [Instr.checkKey, underlying, hu]
      · rename_i hu; simp [Instr.checkKey, underlying, hu]
      · rename_i hu; simp [Instr.checkKey, underlying, hu]
      · rename_i fs hu
        split at h
        · simp at h
        · simp only [Option.map_eq_some_iff] at h
          obtain ⟨r, hr, rfl⟩ := h
          obtain ⟨h1, h2⟩ := mapM_flat _ _ _ hr
          simp only [PartOf, hu] at hv
          subst hv
          simp only [Instr.checkKey, Sem.run_bind, underlying, run_program, Result.andThen_ok, hu, Sem.run_pure]
          rw [← Array.forIn_toList]
          have hcf := checkFields (P := P) (w := w) (em := em) (d := d) (X := X) fs.toList (fun f hf => by
            obtain ⟨j, hj, e⟩ := List.getElem_of_mem hf
            obtain ⟨l, e1, e2⟩ := h2 j f (by rw [List.getElem?_eq_getElem hj, e])
            split at e2
            · simp at e2
            · rename_i hne
              have hsz : f.offset + P.cellsOf f.type ≤ P.cellsOf t := by
                have : ¬ (P.cellsOf t < f.offset + P.cellsOf f.type) := fun e => hne (.inr e)
                omega
              obtain ⟨a, ha, pa⟩ := run_part (w := w) (X := X) (off := f.offset) e2 (fun j hj => hcells _ (by omega))
              refine ⟨a, ha, ih f.type _ l e2 d (by omega) _ (fun j hj => ?_) a pa⟩
              rw [Array.getElem?_extract]
              have hlt : f.offset + P.cellsOf f.type ≤ X.size := by
                have := hcells (f.offset + P.cellsOf f.type - 1) (by omega)
                rcases Nat.lt_or_ge (f.offset + P.cellsOf f.type - 1) X.size with h | h
                · omega
                · rw [Array.getElem?_eq_none h] at this; simp at this
              rw [if_pos (by omega)]
              exact hcells _ (by omega))
          rw [hcf]; rfl
      · simp at h

end

theorem eqKey_st {ks : List KC} {k x : Dat} {b : Bool} (h : eqKey (.st ks) k x = some b) : ∃ xs ys, k = .agg xs ∧ x = .agg ys ∧ eqCs ks xs ys = some b := by
  cases k <;> first | (simp [eqKey] at h; done) | skip
  rename_i xs
  cases x <;> first | (simp [eqKey] at h; done) | skip
  rename_i ys
  exact ⟨xs, ys, rfl, rfl, h⟩

/-- Entries that fit. -/
def EnR (M : Mem) (en : List MapEntry) (es : List (Dat × D)) : Prop :=
  en.length = es.length ∧ ∀ (j : Nat) e k d, en[j]? = some e → es[j]? = some (k, d) → V M k e.key ∧ VD M d e.val
theorem EnR.cons {M : Mem} {e : MapEntry} {en : List MapEntry} {x : Dat × D} {es : List (Dat × D)} (h : EnR M (e :: en) (x :: es)) : V M x.1 e.key ∧ VD M x.2 e.val ∧ EnR M en es :=
  ⟨(h.2 0 e x.1 x.2 (by simp) (by simp)).1, (h.2 0 e x.1 x.2 (by simp) (by simp)).2, by simpa using h.1, fun j e' k d h1 h2 => h.2 (j + 1) e' k d (by simpa using h1) (by simpa using h2)⟩

/-- What a search found, at the machine. -/
def FoundR (M : Mem) (en : List MapEntry) (i : Nat) : Option (Nat × D) → Option (Nat × Value) → Prop
  | none, none => True
  | some (j, d), some (j', v) => j' = i + j ∧ VD M d v ∧ ∃ e, en[j]? = some e ∧ e.val = v
  | _, _ => False
theorem FoundR.step {M : Mem} {e : MapEntry} {en : List MapEntry} {i : Nat} {o : Option (Nat × D)} {r : Option (Nat × Value)} (h : FoundR M en (i + 1) o r) : FoundR M (e :: en) i (o.map fun p => (p.1 + 1, p.2)) r := by
  cases o with
  | none => cases r <;> simp_all [FoundR]
  | some p =>
    obtain ⟨j, d⟩ := p
    cases r with
    | none => simp [FoundR] at h
    | some r =>
      obtain ⟨j', v⟩ := r
      simp only [FoundR, Option.map_some] at *
      obtain ⟨h1, h2, e', h3, h4⟩ := h
      exact ⟨by omega, h2, e', by simpa using h3, h4⟩

def kcOf : TypeDesc → Option KC
  | .int _ => some .i
  | .string => some .s
  | .bool => some .b
  | _ => none
theorem sameNow_ok {d : TypeDesc} {q : KC} (hq : kcOf d = some q) {u v : Value} {b : Bool} (h : eqV q u v = some b) : Instr.sameNow d u v = some b := by
  cases d <;> simp [kcOf] at hq <;> subst hq <;> cases u <;> cases v <;> simp only [eqV, reduceCtorEq] at h
  · simpa [Instr.sameNow] using h
  · simp only [Instr.sameNow]
    split at h
    · rename_i e; rw [if_pos e]; exact h
    · simp at h
  · simp only [Instr.sameNow]
    rw [← h]; congr 1
    rw [beq_toListBytes, elem_dec]

theorem findNow_ok {M : Mem} {d : TypeDesc} {q : KC} (hq : kcOf d = some q) {k : Dat} {u : Value} (hk : V M k u) : ∀ (en : List MapEntry) (es : List (Dat × D)) (i : Nat) (o : Option (Nat × D)), EnR M en es → findK (.c q) k es = some o →
    ∃ r, Instr.findNow d u en i = some r ∧ FoundR M en i o r
  | [], [], i, o, _, h => by simp [findK] at h; subst h; exact ⟨none, rfl, trivial⟩
  | [], _ :: _, _, _, h, _ => by simp [EnR] at h
  | _ :: _, [], _, _, h, _ => by simp [EnR] at h
  | e :: en, (x, dd) :: es, i, o, h, hf => by
    obtain ⟨h1, h2, h3⟩ := h.cons
    simp only [findK, eqKey] at hf
    split at hf
    · rename_i e1
      simp at hf; subst hf
      have := sameNow_ok hq (eqC_V hk h1 e1)
      refine ⟨some (i, e.val), by simp [Instr.findNow, this], by simp, h2, e, by simp, rfl⟩
    · rename_i e1
      simp only [Option.map_eq_some_iff] at hf
      obtain ⟨o', ho, rfl⟩ := hf
      have := sameNow_ok hq (eqC_V hk h1 e1)
      obtain ⟨r, g1, g2⟩ := findNow_ok hq hk en es (i + 1) o' h3 ho
      exact ⟨r, by simp [Instr.findNow, this, g1], g2.step⟩
    · simp at hf

theorem findAsking_ok {M : Mem} {P : Program} {w : World} {t : TypeId} {i0 : TypeInfo} (hi : P.info? t = some i0) {fs : Array Field} (hu : P.underlying t = some (.struct fs)) {ks : List KC} (hl : lvOf P t i0.size = some ks) {k : Dat} {u : Value} (hk : V M k u) :
    ∀ (en : List MapEntry) (es : List (Dat × D)) (i : Nat) (o : Option (Nat × D)), EnR M en es → findK (.st ks) k es = some o →
    ∃ r, (Instr.findAsking t u en i).run P w = .ok r w ∧ FoundR M en i o r
  | [], [], i, o, _, h => by simp [findK] at h; subst h; exact ⟨none, rfl, trivial⟩
  | [], _ :: _, _, _, h, _ => by simp [EnR] at h
  | _ :: _, [], _, _, h, _ => by simp [EnR] at h
  | e :: en, (x, dd) :: es, i, o, h, hf => by
    obtain ⟨h1, h2, h3⟩ := h.cons
    simp only [findK] at hf
    have key : ∀ b, eqKey (.st ks) k x = some b → (Op.equal t u e.key).run P w = .ok b w := by
      intro b hb
      obtain ⟨xs, ys, rfl, rfl, hb'⟩ := eqKey_st hb
      simp only [V] at hk h1
      obtain ⟨p, rfl, g1, _⟩ := hk
      obtain ⟨q, e2, g2, _⟩ := h1
      rw [e2]
      exact (equal_struct (w := w) hi hu hl g1 g2 hb' (d := 10000) (by omega)).1
    split at hf
    · rename_i e1
      simp at hf; subst hf
      refine ⟨some (i, e.val), by simp [Instr.findAsking, key _ e1], by simp, h2, e, by simp, rfl⟩
    · rename_i e1
      simp only [Option.map_eq_some_iff] at hf
      obtain ⟨o', ho, rfl⟩ := hf
      obtain ⟨r, g1, g2⟩ := findAsking_ok (w := w) hi hu hl hk en es (i + 1) o' h3 ho
      exact ⟨r, by simp [Instr.findAsking, key _ e1, g1], g2.step⟩
    · simp at hf

section
variable {C : Ctx} {c : Cfg} {M : Mem} {g : Ref → Option Blk} {w : World}

theorem keyTy_cases (hc : CfgOk C.P c) {t : TypeId} {q : KT} (h : keyTy (c.ty t) = some q) : ∃ i d, Ty C.P t (c.ty t) i d ∧ ((∃ k, q = .c k ∧ kcOf d = some k) ∨ ∃ ks fs, q = .st ks ∧ d = .struct fs ∧ (c.ty t).lv = some ks) := by
  unfold keyTy at h
  split at h
  · rename_i k hk
    simp at h; subst h
    obtain ⟨i, d, ty⟩ := hc.of_kind (t := t) (by rw [hk]; simp)
    have := ty.int hk; subst this
    exact ⟨i, _, ty, .inl ⟨_, rfl, rfl⟩⟩
  · rename_i hk
    simp at h; subst h
    obtain ⟨i, d, ty⟩ := hc.of_kind (t := t) (by rw [hk]; simp)
    have := ty.string hk; subst this
    exact ⟨i, _, ty, .inl ⟨_, rfl, rfl⟩⟩
  · rename_i hk
    simp at h; subst h
    obtain ⟨i, d, ty⟩ := hc.of_kind (t := t) (by rw [hk]; simp)
    have htd : d = .bool := by have := ty.kind; rw [hk] at this; cases d <;> simp [kindOf] at this; rfl
    subst htd
    exact ⟨i, _, ty, .inl ⟨_, rfl, rfl⟩⟩
  · rename_i fs hk
    simp only [Option.map_eq_some_iff] at h
    obtain ⟨ks, h1, rfl⟩ := h
    obtain ⟨i, d, ty⟩ := hc.of_kind (t := t) (by rw [hk]; simp)
    obtain ⟨fa, rfl, _⟩ := ty.struct hk
    exact ⟨i, _, ty, .inr ⟨ks, fa, rfl, rfl, h1⟩⟩
  · simp at h

/-- A key is right for its type. -/
theorem check_ok (hc : CfgOk C.P c) {t : TypeId} {q : KT} (h : keyTy (c.ty t) = some q) {k : Dat} {u : Value} (hk : V M k u) (ho : okKey q k = true) {em : Bool} : (Instr.checkKey em 10000 t u).run C.P w = .ok () w := by
  obtain ⟨i, d, ty, hq⟩ := keyTy_cases hc h
  rcases hq with ⟨k', rfl, hd⟩ | ⟨ks, fs, rfl, rfl, hl⟩
  · have hu := ty.und
    have key : ∀ n, (Instr.checkKey em (n + 1) t u).run C.P w = .ok () w := by
      intro n
      cases d <;> simp [kcOf] at hd <;> simp [Instr.checkKey, underlying, hu]
    exact key 9999
  · simp only [okKey, Option.isSome_iff_exists] at ho
    obtain ⟨b, hb⟩ := ho
    obtain ⟨xs, ys, rfl, _, hb'⟩ := eqKey_st hb
    simp only [V] at hk
    obtain ⟨a, rfl, g1, _⟩ := hk
    have hlv := ty.lvs hl
    unfold lvOf at hlv
    simp only [Option.bind_eq_some_iff] at hlv
    obtain ⟨L, hL, hlv⟩ := hlv
    split at hlv
    case isFalse => simp at hlv
    rename_i hcc
    simp at hlv
    have hLk : L.length = ks.length := by rw [← hlv]; simp
    have hLn : L.length = i.size := by have := congrArg List.length hcc.1; simpa using this
    have hsz : C.P.cellsOf t = i.size := by simp [Program.cellsOf, ty.info]
    obtain ⟨n1, n2⟩ := eqCs_len hb'
    have l1 := (Vl_get g1).1
    simp at l1
    exact checkKey_ok 10 t 0 L hL 10000 (by omega) a (fun j hj => by
      have : j < a.size := by omega
      simp [this]) (.agg a) (by simp [PartOf, ty.und])

/-- A key is found. -/
theorem find_ok (hc : CfgOk C.P c) {t : TypeId} {q : KT} (h : keyTy (c.ty t) = some q) {k : Dat} {u : Value} (hk : V M k u) {en : List MapEntry} {es : List (Dat × D)} {o : Option (Nat × D)} (he : EnR M en es) (hf : findK q k es = some o) :
    ∃ r, (Instr.findKey t u en).run C.P w = .ok r w ∧ FoundR M en 0 o r := by
  obtain ⟨i, d, ty, hq⟩ := keyTy_cases hc h
  rcases hq with ⟨k', rfl, hd⟩ | ⟨ks, fs, rfl, rfl, hl⟩
  · obtain ⟨r, h1, h2⟩ := findNow_ok hd hk en es 0 o he hf
    exact ⟨r, by simp [Instr.findKey, ty.run_underlying, h1], h2⟩
  · obtain ⟨r, h1, h2⟩ := findAsking_ok (w := w) ty.info ty.und (ty.lvs hl) hk en es 0 o he hf
    refine ⟨r, ?_, h2⟩
    simp only [Instr.findKey, Sem.run_bind, ty.run_underlying, Result.andThen_ok]
    cases en with
    | nil =>
      cases es with
      | nil => simp [Instr.findNow, Instr.findAsking] at h1 ⊢; exact h1
      | cons => simp [EnR] at he
    | cons e en =>
      have : Instr.findNow (.struct fs) u (e :: en) 0 = none := by simp [Instr.findNow, Instr.sameNow]
      rw [this]; exact h1

theorem run_getObj_at {b : Nat} {o : Obj} (h : w.heap[b]? = some o) (ho : o.isCells = false) : (getObj b).run C.P w = .ok o w := by
  cases o <;> first | (simp [getObj, Sem.run, h]; done) | (simp [Obj.isCells] at ho; done)
theorem run_setObj_at {b : Nat} {o o' : Obj} (h : w.heap[b]? = some o) (ho : o.isCells = false) : (setObj b o').run C.P w = .ok () { w with heap := w.heap.setIfInBounds b o' } := by
  cases o <;> first | (simp [setObj, Sem.run, h]; done) | (simp [Obj.isCells] at ho; done)

theorem lookR_ok {z : Dat} {ok : Bool} {o : Option D} {v zv : Value} {f : Bool} (h : match o with | some d => VD M d v ∧ f = true | none => v = zv ∧ f = false) (hz : V M z zv) : VD M (lookR z ok o) (if ok then .tuple #[v, .bool f] else v) := by
  unfold lookR
  cases o with
  | none =>
    obtain ⟨rfl, rfl⟩ := h
    cases ok with
    | false => simpa [VD] using hz
    | true =>
      simp only [cond_true, if_true]
      have := mkTup_ok (M := M) (l := [.dat z, .dat (.bool false)]) (vs := [v, .bool false]) (by simp only [VDl, VD, V, and_true]; exact hz)
      simpa using this
  | some d =>
    obtain ⟨h1, rfl⟩ := h
    cases ok with
    | false => simpa using h1
    | true =>
      simp only [cond_true, if_true]
      have := mkTup_ok (M := M) (l := [d, .dat (.bool true)]) (vs := [v, .bool true]) (by simp only [VDl, VD, V, and_true]; exact h1)
      simpa using this

theorem lookup_ok (hc : CfgOk C.P c) {t : TypeId} {kt e : Nat} (hk : (c.ty t).kind = .map kt e) {q : KT} (hq : keyTy (c.ty kt) = some q) (hrs : RS C M g w) {get : Ref → Option Blk} (hget : ∀ r b, get r = some b → g r = some b) {ok : Bool} {m k : D} {um uk : Value} (hm : VD M m um) (hkk : VD M k uk) {d : D}
    (hz : (c.ty e).zero ≠ .any) (hd : lookupD get q (c.ty e).zero ok m k = some d) : ∃ r, (Instr.lookup t um uk ok).run C.P w = .ok r w ∧ VD M d r := by
  obtain ⟨it, td, ty⟩ := hc.of_kind (t := t) (by rw [hk]; simp)
  have htd := ty.map hk
  subst htd
  obtain ⟨ie, de, tye⟩ := hc.of_zero hz
  obtain ⟨zv, hz1, _, hz2⟩ := tye.run_zero (w := w) hz M
  unfold lookupD at hd
  split at hd
  · rename_i r k
    split at hd
    case h_2 => simp at hd
    rename_i es hg
    split at hd
    case isFalse => simp at hd
    rename_i hok
    simp only [mapGet, Option.map_map, Option.map_eq_some_iff] at hd
    obtain ⟨o, ho, rfl⟩ := hd
    simp only [VD] at hm hkk
    obtain ⟨p, hp, rfl⟩ := hm
    obtain ⟨p', hp', how, en, cl, hh, hsz, hen, hb1, hb2⟩ := hrs.blk _ _ (hget _ _ hg)
    rw [hp] at hp'; cases hp'
    have hE : EnR M en.toList es := ⟨by simpa using hsz, fun j e k d h1 h2 => hen j e k d (by simpa using h1) h2⟩
    obtain ⟨r, hr1, hr2⟩ := find_ok (w := w) hc hq hkk hE ho
    have hchk := check_ok (w := w) hc hq hkk hok (em := en.isEmpty)
    cases r with
    | none =>
      have : o = none := by cases o <;> simp_all [FoundR]
      subst this
      refine ⟨if ok then .tuple #[zv, .bool false] else zv, ?_, lookR_ok (f := false) ⟨rfl, rfl⟩ hz2⟩
      simp [Instr.lookup, ty.run_underlying, run_getObj_at hh rfl, hchk, hr1, hz1]
    | some r =>
      obtain ⟨j, v⟩ := r
      cases o with
      | none => simp [FoundR] at hr2
      | some o =>
        obtain ⟨j', dd⟩ := o
        simp only [FoundR] at hr2
        refine ⟨if ok then .tuple #[v, .bool true] else v, ?_, lookR_ok (f := true) ⟨hr2.2.1, rfl⟩ hz2⟩
        simp [Instr.lookup, ty.run_underlying, run_getObj_at hh rfl, hchk, hr1]
  · rename_i k
    split at hd
    case isFalse => simp at hd
    rename_i hok
    simp at hd; subst hd
    simp only [VD] at hkk
    simp only [VD, V] at hm
    subst hm
    have hchk := check_ok (w := w) hc hq hkk hok (em := true)
    obtain ⟨r, hr1, hr2⟩ := find_ok (w := w) (en := []) (es := []) (o := none) hc hq hkk ⟨rfl, fun j e k d h => by simp at h⟩ rfl
    have : r = none := by cases r <;> simp_all [FoundR]
    subst this
    refine ⟨if ok then .tuple #[zv, .bool false] else zv, ?_, lookR_ok (f := false) ⟨rfl, rfl⟩ hz2⟩
    simp [Instr.lookup, ty.run_underlying, hchk, hr1, hz1]
  · simp at hd

end
end Go.Abs

/- The abstract layer, part 17: every operation that makes and changes nothing of the frame's own, at the machine. No conditions. -/
namespace Go.Abs
open Go.RowKit

section
variable {C : Ctx} {c : Cfg} {M : Mem} {g : Ref → Option Blk} {w : World}

theorem len_ok (hc : CfgOk C.P c) {t : TypeId} {k : LK} (hk : match k with | .str => (c.ty t).kind = .string | .slice => ∃ e, (c.ty t).kind = .slice e | .map => ∃ q e, (c.ty t).kind = .map q e) (hrs : RS C M g w) {get : Ref → Option Blk} (hget : ∀ r b, get r = some b → g r = some b)
    {x : D} {u : Value} (hx : VD M x u) {d : D} (hd : lenD get k x = some d) {ts : Array TypeId} (ht : ts[0]? = some t) {ty0 : TypeId} : ∃ r, (Builtin.len_ ts ty0 #[u]).run C.P w = .ok r w ∧ VD M d r := by
  unfold lenD at hd
  split at hd
  · obtain ⟨e, hk⟩ := hk
    obtain ⟨i, td, ty⟩ := hc.of_kind (t := t) (by rw [hk]; simp)
    have := ty.slice hk; subst this
    simp at hd; subst hd
    simp only [VD, V] at hx
    obtain ⟨base, len, cap, rfl, rfl, _⟩ := hx
    exact ⟨.int .i64 (_ : Nat), by simp [Builtin.len_, ht, ty.run_underlying, goInt]; rfl, by simp [VD, V]⟩
  · obtain ⟨e, hk⟩ := hk
    obtain ⟨i, td, ty⟩ := hc.of_kind (t := t) (by rw [hk]; simp)
    have := ty.slice hk; subst this
    simp at hd; subst hd
    simp only [VD] at hx
    obtain ⟨p, base, len, cap, rfl, rfl, _⟩ := hx
    exact ⟨.int .i64 (_ : Nat), by simp [Builtin.len_, ht, ty.run_underlying, goInt]; rfl, by simp [VD, V]⟩
  · obtain ⟨e, hk⟩ := hk
    obtain ⟨i, td, ty⟩ := hc.of_kind (t := t) (by rw [hk]; simp)
    have := ty.slice hk; subst this
    simp at hd; subst hd
    simp only [VD] at hx
    obtain ⟨p, cap, rfl, _⟩ := hx
    exact ⟨.int .i64 (_ : Nat), by simp [Builtin.len_, ht, ty.run_underlying, goInt]; rfl, by simp [VD, V]⟩
  · obtain ⟨i, td, ty⟩ := hc.of_kind (t := t) (by rw [hk]; simp)
    have := ty.string hk; subst this
    simp at hd; subst hd
    simp only [VD, V] at hx
    subst hx
    exact ⟨.int .i64 (_ : Nat), by simp [Builtin.len_, ht, ty.run_underlying, goInt]; rfl, by simp [VD, V]⟩
  · obtain ⟨q, e, hk⟩ := hk
    obtain ⟨i, td, ty⟩ := hc.of_kind (t := t) (by rw [hk]; simp)
    have := ty.map hk; subst this
    split at hd
    case h_2 => simp at hd
    rename_i es hg
    simp at hd; subst hd
    simp only [VD] at hx
    obtain ⟨p, hp, rfl⟩ := hx
    obtain ⟨p', hp', how, en, cl, hh, hsz, _⟩ := hrs.blk _ _ (hget _ _ hg)
    rw [hp] at hp'; cases hp'
    exact ⟨.int .i64 en.size, by simp [Builtin.len_, ht, ty.run_underlying, run_getObj_at hh rfl, goInt], by simp [VD, V, hsz]⟩
  · obtain ⟨q, e, hk⟩ := hk
    obtain ⟨i, td, ty⟩ := hc.of_kind (t := t) (by rw [hk]; simp)
    have := ty.map hk; subst this
    simp at hd; subst hd
    simp only [VD, V] at hx
    subst hx
    exact ⟨.int .i64 (_ : Nat), by simp [Builtin.len_, ht, ty.run_underlying, goInt]; rfl, by simp [VD, V]⟩
  · simp at hd

theorem tass_ok (hc : CfgOk C.P c) {t : TypeId} (hk : (c.ty t).kind ≠ .other) (hk' : (c.ty t).kind ≠ .iface) {x : D} {u : Value} (hx : VD M x u) {ok : Bool} {xt : TypeId} {d : D} (hd : tassD t (c.ty t).zero ok x = some d) : ∃ r, (Instr.typeAssert u xt t ok).run C.P w = .ok r w ∧ VD M d r := by
  obtain ⟨i, td, ty⟩ := hc.of_kind hk
  have hni : ∀ ms, td ≠ .interface ms := by
    intro ms e; subst e; exact hk' (by rw [ty.kind]; rfl)
  have hold : ∀ v d', VD M d' v → (d = if ok then mkTup [d', .dat (.bool true)] else d') → ∃ r, (Instr.typeAssert (.iface t v) xt t ok).run C.P w = .ok r w ∧ VD M d r := by
    intro v d' hv hdd
    refine ⟨if ok then .tuple #[v, .bool true] else v, ?_, ?_⟩
    · simp only [Instr.typeAssert, Sem.run_bind, ty.run_underlying, Result.andThen_ok]
      cases td <;> first | (exact (hni _ rfl).elim) | simp
    · subst hdd
      cases ok with
      | false => simpa using hv
      | true =>
        have := mkTup_ok (M := M) (l := [d', .dat (.bool true)]) (vs := [v, .bool true]) (by simp only [VDl, VD, V, and_true]; exact hv)
        simpa using this
  have hfail : ∀ u', (u' = .nilIface ∨ ∃ t' v, u' = .iface t' v ∧ t' ≠ t) → ok = true → (c.ty t).zero ≠ .any → d = .dat (.tup [(c.ty t).zero, .bool false]) → ∃ r, (Instr.typeAssert u' xt t ok).run C.P w = .ok r w ∧ VD M d r := by
    intro u' hu' hok hz hdd
    obtain ⟨zv, hz1, _, hz2⟩ := ty.run_zero (w := w) hz M
    subst hdd hok
    refine ⟨.tuple #[zv, .bool false], ?_, ?_⟩
    · rcases hu' with rfl | ⟨t', v, rfl, hne⟩
      · simp only [Instr.typeAssert, Sem.run_bind, ty.run_underlying, Result.andThen_ok]
        cases td <;> first | (exact (hni _ rfl).elim) | simp [hz1]
      · simp only [Instr.typeAssert, Sem.run_bind, ty.run_underlying, Result.andThen_ok]
        cases td <;> first | (exact (hni _ rfl).elim) | simp [hz1, hne]
    · simp only [VD, V]
      exact ⟨_, rfl, by simp only [Vl, V, and_true]; exact hz2⟩
  have hany : ∀ {z : Dat}, z.isAny = false → z ≠ .any := by intro z h e; subst e; simp [Dat.isAny] at h
  unfold tassD at hd
  split at hd
  · rename_i t' y
    simp only [VD, V] at hx
    obtain ⟨v, rfl, hv⟩ := hx
    split at hd
    · rename_i e; subst e
      simp at hd
      refine hold v (.dat y) (by simpa [VD] using hv) ?_
      rw [← hd]; cases ok <;> simp [mkTup, dats, D.dat?]
    · rename_i hne
      cases hok : ok with
      | false => rw [hok] at hd; simp at hd
      | true =>
        rw [hok] at hd
        cases hz : (c.ty t).zero.isAny with
        | true => rw [hz] at hd; simp at hd
        | false => rw [hz] at hd; simp at hd; rw [← hok]; exact hfail _ (.inr ⟨t', v, rfl, hne⟩) hok (hany hz) hd.symm
  · rename_i t' y
    simp only [VD] at hx
    obtain ⟨v, rfl, hv⟩ := hx
    split at hd
    · rename_i e; subst e
      simp at hd
      cases ok with
      | false =>
        simp at hd; subst hd
        exact hold v y hv (by simp)
      | true =>
        simp at hd; subst hd
        refine ⟨.tuple #[v, .bool true], ?_, ?_⟩
        · simp only [Instr.typeAssert, Sem.run_bind, ty.run_underlying, Result.andThen_ok]
          cases td <;> first | (exact (hni _ rfl).elim) | simp
        · simp only [VD]
          exact ⟨_, rfl, by simp only [VDl, VD, V, and_true]; exact hv⟩
    · rename_i hne
      cases hok : ok with
      | false => rw [hok] at hd; simp at hd
      | true =>
        rw [hok] at hd
        cases hz : (c.ty t).zero.isAny with
        | true => rw [hz] at hd; simp at hd
        | false => rw [hz] at hd; simp at hd; rw [← hok]; exact hfail _ (.inr ⟨t', v, rfl, hne⟩) hok (hany hz) hd.symm
  · simp only [VD, V] at hx
    subst hx
    cases hok : ok with
    | false => rw [hok] at hd; simp at hd
    | true =>
      rw [hok] at hd
      cases hz : (c.ty t).zero.isAny with
      | true => rw [hz] at hd; simp at hd
      | false => rw [hz] at hd; simp at hd; rw [← hok]; exact hfail _ (.inl rfl) hok (hany hz) hd.symm
  · simp at hd

theorem mnmx_ok {mx : Bool} : ∀ (xs : List D) (us : List Value) (x : D) (u : Value), VD M x u → VDl M xs us → ∀ d, mnmx mx x xs = some d → ∃ r, (us.foldlM (if mx then Builtin.max2 else Builtin.min2) u : Sem Value).run C.P w = .ok r w ∧ VD M d r
  | [], [], x, u, hx, _, d, hd => by simp [mnmx] at hd; subst hd; exact ⟨u, rfl, hx⟩
  | [], _ :: _, _, _, _, h, _, _ => by simp [VDl] at h
  | _ :: _, [], _, _, _, h, _, _ => by simp [VDl] at h
  | y :: xs, v :: us, x, u, hx, h, d, hd => by
    simp only [VDl] at h
    simp only [mnmx, Option.bind_eq_some_iff] at hd
    obtain ⟨z, hz, hd⟩ := hd
    unfold mn2 at hz
    split at hz
    · rename_i k a k' b
      have h1 := h.1
      simp only [VD, V] at hx h1
      subst hx h1
      split at hz
      case isFalse => simp at hz
      rename_i e; subst e
      simp at hz; subst hz
      obtain ⟨r, hr, hv⟩ := mnmx_ok xs us _ (.int k (bif mx then (if a < b then b else a) else (if b < a then b else a))) (by simp [VD, V]) h.2 d hd
      refine ⟨r, ?_, hv⟩
      simp only [List.foldlM_cons, Sem.run_bind]
      cases mx
      · simp only [Bool.false_eq_true, if_false, Builtin.min2, Sem.run_pure, Result.andThen_ok]; exact hr
      · simp only [if_true, Builtin.max2, Sem.run_pure, Result.andThen_ok]; exact hr
    · simp at hz

theorem mapM_get {α β : Type} (f : α → Option β) : ∀ (l : List α) (r : List β), l.mapM f = some r → r.length = l.length ∧ ∀ (j : Nat) a, l[j]? = some a → ∃ x, r[j]? = some x ∧ f a = some x
  | [], r, h => by simp at h; subst h; exact ⟨rfl, fun j a h => by simp at h⟩
  | a :: l, r, h => by
    rw [List.mapM_cons] at h
    simp only [Option.bind_eq_bind, Option.bind_eq_some_iff, Option.pure_def, Option.some.injEq] at h
    obtain ⟨x, hx, r', hr', rfl⟩ := h
    obtain ⟨h1, h2⟩ := mapM_get f l r' hr'
    refine ⟨by simp [h1], fun j b hj => ?_⟩
    cases j with
    | zero => simp at hj; subst hj; exact ⟨x, by simp, hx⟩
    | succ j => simpa using h2 j b (by simpa using hj)
theorem run_mapM {α β : Type} {P : Program} {w : World} (f : α → Sem β) (g : α → β) : ∀ (l : List α), (∀ a ∈ l, (f a).run P w = .ok (g a) w) → (l.mapM f).run P w = .ok (l.map g) w
  | [], _ => rfl
  | a :: l, h => by
    rw [List.mapM_cons]
    simp only [Sem.run_bind, h a (by simp), Result.andThen_ok, run_mapM f g l (fun b hb => h b (by simp [hb])), Sem.run_pure, List.map_cons]

theorem build_ok (hc : CfgOk C.P c) {t : TypeId} {v : Opd → D} {ρ : Operand → Value} (hv : ∀ x, VD M (v (opd x)) (ρ x)) {ps : Array (Nat × Operand)} {op : IOp} (hcomp : compOp c 0 (.build t ps) = some op) {get : Ref → Option Blk} {d : D} (hd : evR get v op = some d) :
    ∃ r, (Instr.build t (ps.map fun (i, x) => (i, ρ x))).run C.P w = .ok r w ∧ VD M d r := by
  simp only [compOp] at hcomp
  have hz0 : ∀ qs, op = .build (c.ty t).zero.cells qs → (c.ty t).zero.cells ≠ [] := by
    intro qs hop e
    subst hop
    simp only [evR, e] at hd
    simp at hd
  -- the zero value as cells
  have zero : (c.ty t).zero.cells ≠ [] → ∃ i td zv, Ty C.P t (c.ty t) i td ∧ (zeroValue t).run C.P w = .ok zv w ∧ ArrD M zv.cells ((c.ty t).zero.cells.map .dat) := by
    intro hz
    obtain ⟨i, td, ty⟩ := hc.of_zero (t := t) (by intro e; rw [e] at hz; simp [Dat.cells] at hz)
    obtain ⟨zv, h1, _, h2⟩ := ty.run_zero (w := w) (by intro e; rw [e] at hz; simp [Dat.cells] at hz) M
    obtain ⟨h3, h4⟩ := V_cells h2 hz
    exact ⟨i, td, zv, ty, h1, by simpa using h3.symm, h4⟩
  have fin : ∀ (place : Nat → Option (Nat × Nat)) (qs : List (Nat × Nat × Opd)), op = .build (c.ty t).zero.cells qs → qs.length = ps.size → (∀ (j : Nat) p q, ps[j]? = some p → qs[j]? = some q → place p.1 = some (q.1, q.2.1) ∧ q.2.2 = opd p.2 ∧ q.2.1 ≠ 0) → (c.ty t).zero.cells ≠ [] →
      ∃ zv cells, (zeroValue t).run C.P w = .ok zv w ∧ Instr.fill place zv.cells (ps.map fun (i, x) => (i, ρ x)).toList = some cells ∧ VD M d (.agg cells) := by
    intro place qs hop hlen hq hz
    subst hop
    have hze : (c.ty t).zero.cells.isEmpty = false := by cases e : (c.ty t).zero.cells <;> simp_all
    simp only [evR, hze, cond_false, Option.map_eq_some_iff] at hd
    obtain ⟨l, hl, rfl⟩ := hd
    obtain ⟨i, td, zv, ty, h1, h2⟩ := zero hz
    obtain ⟨b, h3, h4⟩ := fill_ok (M := M) (place := place) (ps.toList.map fun p => (p.1, v (opd p.2), ρ p.2)) (qs.map fun q => (q.1, q.2.1, v q.2.2)) zv.cells _ l h2
      (fun p hp => by simp at hp; obtain ⟨a, o, _, rfl⟩ := hp; exact hv _) (by simpa using hlen) (fun j p q e1 e2 => by
        simp only [List.getElem?_map, Option.map_eq_some_iff, Array.getElem?_toList] at e1 e2
        obtain ⟨p', f1, rfl⟩ := e1
        obtain ⟨q', f2, rfl⟩ := e2
        obtain ⟨g1, g2, g3⟩ := hq j p' q' f1 f2
        exact ⟨g1, by simp [g2], g3⟩) hl
    refine ⟨zv, b, h1, ?_, ?_⟩
    · rw [← h3]; simp [Function.comp_def]
    · have := mkAgg_ok (M := M) (l := l) (vs := b.toList) (VDl_of (by simpa using h4.1.symm) fun j d' v' e1 e2 => by
        obtain ⟨x, f1, f2, f3⟩ := h4.2 j d' e1
        have f1' : b[j]? = some x := f1
        rw [Array.getElem?_toList, f1'] at e2
        cases e2; exact f3) (fun x hx => by
        obtain ⟨j, hj, e⟩ := List.getElem_of_mem hx
        have hj' : j < b.size := by simpa using hj
        have hjl : j < l.length := by rw [← h4.1]; exact hj'
        obtain ⟨y, f1, f2, f3⟩ := h4.2 j l[j] (List.getElem?_eq_getElem hjl)
        have f1' : b[j]? = some y := f1
        rw [Array.getElem?_eq_getElem hj'] at f1'
        simp at f1'
        rw [← e, Array.getElem_toList, f1']; exact f2)
      simpa using this
  split at hcomp
  · rename_i fs hk
    split at hcomp
    case isFalse => simp at hcomp
    rename_i hall
    simp only [Option.map_eq_some_iff] at hcomp
    obtain ⟨qs, hqs, rfl⟩ := hcomp
    obtain ⟨i, td, ty⟩ := hc.of_kind (t := t) (by rw [hk]; simp)
    obtain ⟨fa, rfl, rfl⟩ := ty.struct hk
    obtain ⟨n1, n2⟩ := mapM_get _ _ _ hqs
    have hsz : ∀ f ∈ fa.toList, (c.ty f.type).size ≠ 0 := by
      intro f hf
      rw [List.all_eq_true] at hall
      have := hall (f.offset, f.type) (List.mem_map.2 ⟨f, hf, rfl⟩)
      simpa using this
    have hz : (c.ty t).zero.cells ≠ [] := hz0 _ rfl
    obtain ⟨zv, cells, h1, h2, h3⟩ := fin (fun i => (fa.map fun f => (f.offset, (c.ty f.type).size))[i]?) qs rfl (by simpa using n1) (fun j p q e1 e2 => by
      obtain ⟨x, f1, f2⟩ := n2 j p (by simpa using e1)
      rw [e2] at f1; cases f1
      simp only [List.getElem?_map, Option.map_map, Option.map_eq_some_iff, Array.getElem?_toList] at f2
      obtain ⟨f, f3, rfl⟩ := f2
      refine ⟨by simp [f3], rfl, hsz f ?_⟩
      exact List.mem_of_getElem? (i := p.1) (by simpa using f3)) hz
    refine ⟨.agg cells, ?_, h3⟩
    have hpl : (fa.mapM (fun f => do pure (f.offset, ← sizeOf f.type)) : Sem _).run C.P w = .ok (fa.map fun f => (f.offset, (c.ty f.type).size)) w := by
      rw [Array.mapM_eq_mapM_toList]
      simp only [Sem.run_map]
      rw [run_mapM _ (fun f => (f.offset, (c.ty f.type).size)) fa.toList (fun f hf => by
        obtain ⟨i', d', ty'⟩ := hc.of_size (hsz f hf)
        simp [ty'.run_sizeOf])]
      simp only [Result.andThen_ok]
      congr 1
      apply Array.ext'; simp
    simp only [Instr.build, Sem.run_bind, h1, Result.andThen_ok, ty.run_underlying, hpl, h2, Sem.run_pure]
  · rename_i n e hk
    split at hcomp
    · simp at hcomp
    rename_i hsz
    simp at hcomp
    obtain ⟨i, td, ty⟩ := hc.of_kind (t := t) (by rw [hk]; simp)
    have := ty.array hk; subst this
    obtain ⟨i', d', ty'⟩ := hc.of_size hsz
    have hz : (c.ty t).zero.cells ≠ [] := hz0 _ hcomp.symm
    obtain ⟨zv, cells, h1, h2, h3⟩ := fin (fun i => some (i * (c.ty e).size, (c.ty e).size)) _ hcomp.symm (by simp) (fun j p q e1 e2 => by
      simp only [List.getElem?_map, Option.map_eq_some_iff, Array.getElem?_toList] at e2
      obtain ⟨p', f1, rfl⟩ := e2
      rw [e1] at f1; cases f1
      exact ⟨rfl, rfl, hsz⟩) hz
    refine ⟨.agg cells, ?_, h3⟩
    simp only [Instr.build, Sem.run_bind, h1, Result.andThen_ok, ty.run_underlying, ty'.run_sizeOf, h2, Sem.run_pure]
  · simp at hcomp

end
end Go.Abs

/- The abstract layer, part 18: every operation that makes and changes nothing of the frame's own, together. No conditions. -/
namespace Go.Abs
open Go.RowKit

section
variable {C : Ctx} {c : Cfg} {M : Mem} {g : Ref → Option Blk} {w : World}

theorem bslice_ok (hc : CfgOk C.P c) (hrs : RS C M g w) {t : TypeId} {e : Nat} (hk : (c.ty t).kind = .slice e) {v : Opd → D} {ρ : Operand → Value} (hv : ∀ x, VD M (v (opd x)) (ρ x)) {n : Nat} {ps : Array (Nat × Operand)} {l : List Dat}
    (hcnd : n = 0 ∨ ((c.ty e).zero.cells.length = (c.ty e).size ∧ ((c.ty e).agg = true ∨ (c.ty e).size = 1))) (hn : n * (c.ty e).size ≤ 2 ^ 24) (he : (c.ty e).size ≠ 0)
    (hl : bfill (c.ty e).size (List.replicate n (zeroElem (c.ty e).agg (c.ty e).zero.cells)) (ps.toList.map fun p => (p.1, (v (opd p.2)).elem)) = some l) :
    ∃ M' w' r, (Instr.buildSlice t n (ps.map fun (i, x) => (i, ρ x))).run C.P w = .ok r w' ∧ M.le M' ∧ RS C M' g w' ∧ V M' (.list l (decide (n = 0))) r := by
  obtain ⟨it, td, ty⟩ := hc.of_kind (t := t) (by rw [hk]; simp)
  have := ty.slice hk; subst this
  obtain ⟨ie, de, tye⟩ := hc.of_size he
  have hlen : l.length = n := by
    have key : ∀ (qs : List (Nat × Option Dat)) (xs l : List Dat), bfill (c.ty e).size xs qs = some l → l.length = xs.length := by
      intro qs
      induction qs with
      | nil => intro xs l h; simp [bfill] at h; rw [h]
      | cons q qs ih =>
        intro xs l h
        obtain ⟨i, o⟩ := q
        cases o with
        | none => simp [bfill] at h
        | some x =>
          simp only [bfill] at h
          split at h
          · rw [ih _ _ h]; simp
          · simp at h
    rw [key _ _ _ hl]; simp
  have start : ∃ z, ((n * (c.ty e).size = 0 ∧ z = #[]) ∨ (¬ n * (c.ty e).size = 0 ∧ ∃ zv : Value, (zeroValue e).run C.P w = .ok zv w ∧ z = zv.cells)) ∧
      EltA M (c.ty e).size ((Array.range (n * (c.ty e).size)).map (fun i => z[i % z.size]!)) (List.replicate n (zeroElem (c.ty e).agg (c.ty e).zero.cells)) := by
    by_cases h0 : n = 0
    · subst h0
      refine ⟨#[], .inl ⟨by simp, rfl⟩, by simp, fun i x hi => by simp at hi⟩
    · obtain ⟨z1, z3⟩ := hcnd.resolve_left h0
      have hne : (c.ty e).zero ≠ .any := by intro e'; rw [e'] at z1; simp [Dat.cells] at z1; omega
      have hne' : (c.ty e).zero.cells ≠ [] := by intro e'; rw [e'] at z1; simp at z1; omega
      obtain ⟨zv, g1, _, g2⟩ := tye.run_zero (w := w) hne M
      obtain ⟨g3, g4⟩ := V_cells g2 hne'
      refine ⟨zv.cells, ?_, ?_⟩
      · exact .inr ⟨fun h => by rcases Nat.mul_eq_zero.1 h with h | h <;> contradiction, zv, g1, rfl⟩
      · refine EltA.zero ?_ (V_flat g2 hne') z1 he z3
        refine (VDl_dat M _ _).1 (VDl_of (by simpa using g3) fun j d u e1 e2 => ?_)
        obtain ⟨y, f1, f2, f3⟩ := g4 j d e1
        have f1' : zv.cells[j]? = some y := f1
        rw [Array.getElem?_toList, f1'] at e2
        cases e2; exact f3
  obtain ⟨z, hz1, hz2⟩ := start
  obtain ⟨b, hb1, hb2⟩ := bfill_ok (M := M) (ps.toList.map fun p => (p.1, v (opd p.2), ρ p.2)) _ _ l hz2 (fun p hp => by
    simp at hp; obtain ⟨a, o, _, rfl⟩ := hp; exact hv _) (by rw [← hl]; simp [Function.comp_def])
  obtain ⟨M', h1, h2, h3⟩ := hb2.know hrs e (decide (n = 0))
  refine ⟨M', _, .slice (some ⟨w.heap.size, 0, none⟩) n n, ?_, h1, h2, by rw [← hlen]; simpa [hlen] using h3⟩
  have hb1' : Instr.fill (fun i => some (i * (c.ty e).size, (c.ty e).size)) ((Array.range (n * (c.ty e).size)).map (fun i => z[i % z.size]!)) (ps.map fun (i, x) => (i, ρ x)).toList = some b := by
    rw [← hb1]; simp [Function.comp_def]
  have hng : ¬ (n * (c.ty e).size > 2 ^ 24) := by omega
  simp only [Instr.buildSlice, Sem.run_bind, ty.run_underlying, Result.andThen_ok, tye.run_sizeOf, hng, if_false]
  rcases hz1 with ⟨h0, rfl⟩ | ⟨h0, zv, hz, rfl⟩
  · rw [if_pos h0]
    simp only [Sem.run_bind, Sem.run_pure, Result.andThen_ok, hb1', newRow, run_newObj, World.alloc_eq]
  · rw [if_neg h0]
    simp only [Sem.run_bind, hz, Sem.run_pure, Result.andThen_ok, hb1', newRow, run_newObj, World.alloc_eq]

theorem toList_map {α β : Type} {a : Array α} {f : α → β} {x : β} (h : a.toList.map f = [x]) : ∃ y, a = #[y] ∧ f y = x := by
  have : a.toList.length = 1 := by have := congrArg List.length h; simpa using this
  obtain ⟨y, hy⟩ : ∃ y, a.toList = [y] := List.length_eq_one_iff.1 this
  refine ⟨y, by cases a; simp_all, by rw [hy] at h; simpa using h⟩

theorem kindAt_some {a : Array TypeId} {i : Nat} (h : kindAt c a i ≠ .other) : ∃ t, a[i]? = some t ∧ kindAt c a i = (c.ty t).kind := by
  unfold kindAt at h ⊢
  cases e : a[i]? with
  | none => rw [e] at h; exact (h rfl).elim
  | some t => exact ⟨t, rfl, rfl⟩
theorem VDl_map {v : Opd → D} {ρ : Operand → Value} (hv : ∀ x, VD M (v (opd x)) (ρ x)) : ∀ l : List Operand, VDl M ((l.map opd).map v) (l.map ρ)
  | [] => by simp [VDl]
  | x :: l => by simp only [List.map_cons, VDl]; exact ⟨hv x, VDl_map hv l⟩

theorem evR_sound (hc : CfgOk C.P c) (hrs : RS C M g w) {get : Ref → Option Blk} (hget : ∀ r b, get r = some b → g r = some b) {v : Opd → D} {ρ : Operand → Value} (hv : ∀ x, VD M (v (opd x)) (ρ x)) {dst : Nat} {o : Oper} {op : IOp}
    (hcomp : compOp c dst o.op = some op) (hW : isW op = false) {d : D} (hd : evR get v op = some d) : ROk C M g w (execOp ρ o) d := by
  have now : ∀ {s : Sem Value}, (∃ r, s.run C.P w = .ok r w ∧ VD M d r) → ROk C M g w (do pure (.value (← s))) d := by
    intro s ⟨r, h1, h2⟩
    exact ⟨M, w, r, by simp [h1], .refl M, hrs, h2⟩
  obtain ⟨dst', oo, oty, pos, aft, grd⟩ := o
  simp only at hcomp
  cases oo <;> simp only [compOp] at hcomp
  case move x => simp at hcomp; subst hcomp; simp [evR] at hd; subst hd; exact .now hrs rfl (hv x)
  case assign x => simp at hcomp; subst hcomp; simp [evR] at hd; subst hd; exact .now hrs rfl (hv x)
  case pick x y z =>
    simp at hcomp; subst hcomp
    simp only [evR, pickD] at hd
    have hx := hv x
    split at hd
    · rename_i t e
      rw [e] at hx
      simp only [VD, V] at hx
      simp at hd
      refine .now hrs (u := if t then ρ y else ρ z) (by simp [execOp, hx, asBool]) ?_
      subst hd; cases t
      · exact hv z
      · exact hv y
    · simp at hd
  case alloc => simp at hcomp; subst hcomp; simp [isW] at hW
  case box => simp at hcomp; subst hcomp; simp [isW] at hW
  case build t ps =>
    exact now (build_ok hc hv (by simp only [compOp]; exact hcomp) hd)
  case buildSlice t n ps =>
    split at hcomp
    · rename_i e hk
      simp only [Option.some.injEq] at hcomp; subst hcomp
      cases ha : c.arrs.contains dst with
      | true => rw [ha] at hW; simp [isW] at hW
      | false =>
        rw [ha] at hd
        simp only [evR] at hd
        split at hd
        case isFalse => simp at hd
        rename_i hcnd
        simp only [Option.map_eq_some_iff] at hd
        obtain ⟨l, hl, rfl⟩ := hd
        obtain ⟨M', w', r, h1, h2, h3, h4⟩ := bslice_ok (M := M) hc hrs hk hv (ps := ps) hcnd.2.2 (by have := hcnd.2.1; omega) hcnd.1 (by rw [← hl]; simp [Function.comp_def])
        exact ⟨M', w', r, by simp [execOp, h1], h2, h3, by simpa [VD] using h4⟩
    · simp at hcomp
  case load t a =>
    simp at hcomp; subst hcomp
    exact now (load_ok hc hrs hget (hv a) hd)
  case store => simp at hcomp; subst hcomp; simp [isW] at hW
  case nilCheck x =>
    simp at hcomp; subst hcomp
    simp only [evR] at hd
    have hx := hv x
    unfold nilckD at hd
    split at hd <;> rename_i e <;> (try (rw [e] at hx)) <;> simp at hd
    · subst hd; have h' := hx; simp only [VD, V] at h'; obtain ⟨b, o, h', _⟩ := h'
      exact .now hrs (u := ρ x) (by simp [execOp, h']) hx
    · subst hd; have h' := hx; simp only [VD] at h'; obtain ⟨p, _, h'⟩ := h'
      exact .now hrs (u := ρ x) (by simp [execOp, h']) hx
    · subst hd; have h' := hx; simp only [VD, V] at h'; obtain ⟨p, q, h', _⟩ := h'
      exact .now hrs (u := ρ x) (by simp [execOp, h']) hx
    · subst hd; have h' := hx; simp only [VD] at h'; obtain ⟨p, q, h', _⟩ := h'
      exact .now hrs (u := ρ x) (by simp [execOp, h']) hx
    · subst hd; have h' := hx; simp only [VD] at h'; obtain ⟨b, _, h'⟩ := h'
      exact .now hrs (u := ρ x) (by simp [execOp, h']) hx
  case binOp bop t x y yt =>
    have eqop : ∀ neg, eqOp neg (c.ty t) (opd x) (opd y) = some op → ROk C M g w (do pure (.value (← (do eqGuard (if neg then .neq else .eql) t x y (ρ x) (ρ y); binOp (if neg then .neq else .eql) t (ρ x) (ρ y) : Sem Value)))) d := by
      intro neg hq
      unfold eqOp at hq
      split at hq
      · simp at hq; subst hq; exact now (bin_run (hv x) (hv y) hd)
      · simp at hq; subst hq; exact now (bin_run (hv x) (hv y) hd)
      · rename_i hk; simp at hq; subst hq; exact now (eqb_ok hc hk (hv x) (hv y) hd)
      · rename_i fs hk
        simp only [Option.map_eq_some_iff] at hq
        obtain ⟨ks, h1, rfl⟩ := hq
        exact now (eqs_ok hc hk h1 (hv x) (hv y) hd)
      · simp at hq
    cases bop <;> simp only at hcomp
    case eql => exact eqop false hcomp
    case neq => exact eqop true hcomp
    all_goals (simp at hcomp; subst hcomp; exact now (bin_run (hv x) (hv y) hd))
  case unOp uop t x =>
    simp at hcomp; subst hcomp
    simp only [evR, unD] at hd
    have hx := hv x
    split at hd
    · rename_i b e
      rw [e] at hx; simp only [VD, V] at hx
      split at hd
      · simp at hd; subst hd; exact .now hrs (u := .bool (!b)) (by simp [execOp, hx, Op.unary]) (by simp [VD, V])
      · simp at hd
    · rename_i k n e
      rw [e] at hx; simp only [VD, V] at hx
      split at hd
      · simp at hd; subst hd; exact .now hrs (u := .int k (k.wrap (0 - n))) (by simp [execOp, hx, Op.unary, Op.intArith]) (by simp [VD, V])
      · simp at hd
    · simp at hd
  case convert st dt x =>
    split at hcomp
    · rename_i k k' h1 h2
      simp at hcomp; subst hcomp
      obtain ⟨i1, d1, t1⟩ := hc.of_kind (t := st) (by rw [h1]; simp)
      obtain ⟨i2, d2, t2⟩ := hc.of_kind (t := dt) (by rw [h2]; simp)
      have := t1.int h1; subst this
      have := t2.int h2; subst this
      simp only [evR, conviD] at hd
      have hx := hv x
      split at hd
      · rename_i q n e
        rw [e] at hx; simp only [VD, V] at hx
        simp at hd; subst hd
        exact .now hrs (u := .int k' (k'.wrap n)) (by simp [execOp, hx, convert, t1.run_underlying, t2.run_underlying, Conv.intToInt]) (by simp [VD, V])
      · simp at hd
    · simp at hcomp
  case makeInterface t x =>
    split at hcomp
    · simp at hcomp
    · simp at hcomp
    · rename_i h1 h2
      simp at hcomp; subst hcomp
      simp [evR] at hd; subst hd
      obtain ⟨i, td, ty⟩ := hc.of_kind (t := t) (fun e => h2 e)
      have hni : ∀ ms, td ≠ .interface ms := by intro ms e; subst e; exact h1 (by rw [ty.kind]; rfl)
      refine .now hrs (u := .iface t (ρ x)) ?_ (mkIface_ok t (hv x))
      simp only [execOp, Sem.run_bind, Instr.makeInterface, ty.run_underlying, Result.andThen_ok]
      cases td <;> first | (exact (hni _ rfl).elim) | simp
  case makeFunc fn a b =>
    cases fn <;> simp only [reduceCtorEq, Option.some.injEq] at hcomp
    rename_i f
    subst hcomp
    simp [evR] at hd; subst hd
    refine .now hrs (u := .func (.func f) (a.map ρ) (b.map ρ)) (by simp [execOp, Instr.makeFunc]) ?_
    simp only [VD]
    exact ⟨_, _, rfl, by simpa using VDl_map hv a.toList, by simpa using VDl_map hv b.toList⟩
  case makeMap t r => cases r <;> simp at hcomp; subst hcomp; simp [isW] at hW
  case makeSlice => split at hcomp <;> simp at hcomp; subst hcomp; simp [isW] at hW
  case slice t x lo hi mx =>
    split at hcomp
    · rename_i e hk
      simp at hcomp
      obtain ⟨hmh, rfl⟩ := hcomp
      exact now (slice_ok hc hk hrs hget hv (fun h => hmh (by cases mx <;> simp_all)) hd)
    · rename_i hk
      split at hcomp
      · simp at hcomp
      · rename_i hmx
        simp at hcomp hmx; subst hcomp hmx
        exact now (sslice_ok hc hk hv hd)
    · simp at hcomp
  case fieldAddr s x f =>
    split at hcomp
    · rename_i fs hk
      simp only [Option.bind_eq_some_iff] at hcomp
      obtain ⟨p, hp, hcomp⟩ := hcomp
      split at hcomp
      · simp at hcomp
      · rename_i hs
        simp at hcomp; subst hcomp
        exact now (faddr_ok hc hk hp hs (hv x) hd)
    · simp at hcomp
  case field s x f =>
    split at hcomp
    · rename_i fs hk
      simp only [Option.map_eq_some_iff] at hcomp
      obtain ⟨p, hp, rfl⟩ := hcomp
      exact now (field_ok hc hk hp (hv x) hd)
    · simp at hcomp
  case indexAddr t x i =>
    split at hcomp
    · rename_i e hk
      split at hcomp
      · simp at hcomp
      · rename_i hs
        simp at hcomp; subst hcomp
        exact now (iaddr_ok hc hk hrs hget (hv x) (hv i) hs hd)
    · rename_i n e hk
      split at hcomp
      · simp at hcomp
      · rename_i hs
        simp at hcomp; subst hcomp
        exact now (aaddr_ok hc hk (hv x) (hv i) hs hd)
    · simp at hcomp
  case index t x i =>
    split at hcomp
    · rename_i hk
      simp at hcomp; subst hcomp
      exact now (idxs_ok hc hk (hv x) (hv i) hd)
    · simp at hcomp
  case lookup t m k ok =>
    split at hcomp
    · rename_i q e hk
      simp only [Option.map_eq_some_iff] at hcomp
      obtain ⟨qq, hq, rfl⟩ := hcomp
      simp only [evR] at hd
      cases hz : (c.ty e).zero.isAny with
      | true => rw [hz] at hd; simp at hd
      | false =>
        rw [hz] at hd
        simp at hd
        exact now (lookup_ok hc hk hq hrs hget (hv m) (hv k) (by intro e'; rw [e'] at hz; simp [Dat.isAny] at hz) hd)
    · simp at hcomp
  case mapUpdate => split at hcomp <;> simp at hcomp; obtain ⟨_, _, rfl⟩ := hcomp; simp [isW] at hW
  case insert => split at hcomp <;> simp at hcomp; obtain ⟨_, _, rfl⟩ := hcomp; simp [isW] at hW
  case range => split at hcomp <;> simp at hcomp; subst hcomp; simp [isW] at hW
  case next x b => cases b <;> simp at hcomp; subst hcomp; simp [evR] at hd
  case entry => simp at hcomp; subst hcomp; simp [isW] at hW
  case typeAssert x xt t ok =>
    split at hcomp
    · simp at hcomp
    · simp at hcomp
    · rename_i h1 h2
      simp at hcomp; subst hcomp
      exact now (tass_ok hc (fun e => h2 e) (fun e => h1 e) (hv x) hd)
  case extract x i => simp at hcomp; subst hcomp; exact now (ext_ok (hv x) hd)
  case call cl =>
    obtain ⟨callee, args, argTypes⟩ := cl
    cases callee with
    | value gg => simp only [Option.some.injEq] at hcomp; subst hcomp; simp [evR] at hd
    | invoke => cases hcomp
    | builtin b =>
      simp only at hcomp
      have blt : ∀ (s : Sem Value), (∀ cs, builtin b argTypes oty cs (args.map ρ) = (do pure (.value (← s)))) → (∃ r, s.run C.P w = .ok r w ∧ VD M d r) →
          ROk C M g w (execOp ρ { dst := dst', op := .call { callee := .builtin b, args, argTypes }, type := oty, pos := pos, after := aft, guard := grd }) d := by
        intro s hs hr
        have := now hr
        simp only [execOp, resolve, invoke, pure_bind]
        rw [hs]; exact this
      split at hcomp
      · rename_i x hx
        obtain ⟨y, rfl, rfl⟩ := toList_map hx
        have key : ∀ k : LK, op = .blen k (opd y) → (match k with | .str => kindAt c argTypes 0 = .string | .slice => ∃ e, kindAt c argTypes 0 = .slice e | .map => ∃ q e, kindAt c argTypes 0 = .map q e) → kindAt c argTypes 0 ≠ .other →
            ROk C M g w (execOp ρ { dst := dst', op := .call { callee := .builtin .len, args := #[y], argTypes }, type := oty, pos := pos, after := aft, guard := grd }) d := by
          intro k hop hk h0
          subst hop
          obtain ⟨t, ht, hkt⟩ := kindAt_some h0
          rw [hkt] at hk
          exact blt _ (fun _ => rfl) (by simpa using len_ok hc hk hrs hget (hv y) hd ht (ty0 := oty))
        split at hcomp
        · rename_i hk; simp at hcomp; exact key .str hcomp.symm hk (by rw [hk]; simp)
        · rename_i e hk; simp at hcomp; exact key .slice hcomp.symm ⟨e, hk⟩ (by rw [hk]; simp)
        · rename_i q e hk; simp at hcomp; exact key .map hcomp.symm ⟨q, e, hk⟩ (by rw [hk]; simp)
        · cases hcomp
      · split at hcomp <;> simp at hcomp
        obtain ⟨_, rfl⟩ := hcomp; simp [isW] at hW
      · split at hcomp <;> simp at hcomp
        subst hcomp; simp [isW] at hW
      · simp only [Option.some.injEq] at hcomp
        subst hcomp
        cases hl : args.toList with
        | nil => rw [hl] at hd; simp [evR] at hd
        | cons x xs =>
          rw [hl] at hd
          simp only [List.map_cons, evR] at hd
          obtain ⟨r, h1, h2⟩ := mnmx_ok (C := C) (w := w) (mx := true) _ _ _ _ (hv x) (VDl_map hv xs) d hd
          refine blt _ (fun _ => rfl) ⟨r, ?_, h2⟩
          simp only [Builtin.max_, Array.toList_map, hl, List.map_cons]
          exact h1
      · simp only [Option.some.injEq] at hcomp
        subst hcomp
        cases hl : args.toList with
        | nil => rw [hl] at hd; simp [evR] at hd
        | cons x xs =>
          rw [hl] at hd
          simp only [List.map_cons, evR] at hd
          obtain ⟨r, h1, h2⟩ := mnmx_ok (C := C) (w := w) (mx := false) _ _ _ _ (hv x) (VDl_map hv xs) d hd
          refine blt _ (fun _ => rfl) ⟨r, ?_, h2⟩
          simp only [Builtin.min_, Array.toList_map, hl, List.map_cons]
          exact h1
      · split at hcomp <;> simp at hcomp
        obtain ⟨_, _, rfl⟩ := hcomp; simp [isW] at hW
      · simp at hcomp; subst hcomp; simp [evR] at hd
      · cases hcomp
  case defer cl =>
    obtain ⟨callee, args, argTypes⟩ := cl
    cases callee
    · simp only [Option.some.injEq] at hcomp; subst hcomp; simp [evR] at hd
    · cases hcomp
    · cases hcomp
  case panic => simp at hcomp; subst hcomp; simp [evR] at hd
  all_goals (first | cases hcomp | (unfold compOp at hcomp; cases hcomp))

end
end Go.Abs

/- The abstract layer, part 19: new things, changed things, things that are no longer looked at. No conditions. -/
namespace Go.Abs
open Go.RowKit

@[simp] theorem gset_same (g : Ref → Option Blk) (r : Ref) (b : Blk) : gset g r b r = some b := by simp [gset]
theorem gset_other (g : Ref → Option Blk) {r q : Ref} (b : Blk) (h : q ≠ r) : gset g r b q = g q := by simp [gset, h]
@[simp] theorem gdel_same (g : Ref → Option Blk) (r : Ref) : gdel g r r = none := by simp [gdel]
theorem gdel_other (g : Ref → Option Blk) {r q : Ref} (h : q ≠ r) : gdel g r q = g q := by simp [gdel, h]

section
variable {C : Ctx} {M : Mem} {g : Ref → Option Blk} {w : World}

/-- Nobody looks at r any more. -/
theorem RS.drop (h : RS C M g w) (r : Ref) : RS C M (gdel g r) w := by
  refine ⟨h.known, h.own, fun q x hq => ?_, fun l hl => ⟨?_, (h.nf l hl).2⟩, fun q x hq hv => ?_, h.plv, h.glob, h.low, h.n0⟩
  · unfold gdel at hq; split at hq
    · simp at hq
    · exact h.blk q x hq
  · unfold gdel; split
    · rfl
    · exact (h.nf l hl).1
  · unfold gdel at hq; split at hq
    · simp at hq
    · exact h.plc q x hq hv

/-- A block of its own, for a new thing. -/
def Mem.own (M : Mem) (r : Ref) (p : Place) (b : Nat) : Mem :=
  { M with place := fun q => if q = r then some p else M.place q, owner := fun c o => if c = b then some r else M.owner c o }

theorem Mem.own_le {M : Mem} {r : Ref} {p : Place} {b : Nat} (h : M.place r = none) : M.le (M.own r p b) :=
  ⟨fun _ _ _ h => h, fun q x hq => by simp only [Mem.own]; split
                                      · rename_i e; subst e; rw [h] at hq; simp at hq
                                      · exact hq, Nat.le_refl _, Nat.le_refl _⟩

/-- One more is made: by whom, where, which number. -/
theorem RS.new (h : RS C M g w) {ℓ s n : Nat} (hc : g (.ctr ℓ) = some (.ctr n)) (o : Obj) (p : Place) (b : Blk)
    (hb : RB (M.own (.v ℓ s n) p w.heap.size) (.v ℓ s n) (w.alloc o) b) :
    M.le (M.own (.v ℓ s n) p w.heap.size) ∧ RS C (M.own (.v ℓ s n) p w.heap.size) (gset (gset g (.ctr ℓ) (.ctr (n + 1))) (.v ℓ s n) b) (w.alloc o) := by
  have hpl : M.place (.v ℓ s n) = none := by
    obtain ⟨l, e, hl⟩ := h.blk _ _ hc
    cases e
    exact hl s n (Nat.le_refl _)
  have hle := Mem.own_le (p := p) (b := w.heap.size) hpl
  have hnf : ℓ < M.nf := by
    rcases Nat.lt_or_ge ℓ M.nf with h1 | h1
    · exact h1
    · rw [(h.nf ℓ h1).1] at hc; simp at hc
  refine ⟨hle, fun b o v hk => ?_, fun b o r hr => ?_, fun q x hq => ?_, fun l hl => ?_, fun q x hq hv => ?_, fun q x hq => ?_, fun n => V.mono hle _ _ (h.glob n), h.low.alloc h.n0.1 _, ?_⟩
  · have hlt := h.lt hk
    obtain ⟨h1, h2⟩ := h.known b o v hk
    refine ⟨by rw [World.cell?_alloc_lt (a := ⟨b, o, none⟩) (h := hlt)]; exact h1, ?_⟩
    simp only [Mem.own]
    rw [if_neg (by omega)]; exact h2
  · simp only [Mem.own] at hr
    rw [World.size_alloc]
    split at hr
    · rename_i e; subst e; have := h.n0; omega
    · have := h.own b o r hr; omega
  · by_cases e : q = .v ℓ s n
    · subst e; simp only [gset_same, Option.some.injEq] at hq; subst hq; exact hb
    · rw [gset_other _ _ e] at hq
      by_cases e2 : q = .ctr ℓ
      · subst e2
        simp only [gset_same, Option.some.injEq] at hq; subst hq
        obtain ⟨l, e3, hl⟩ := h.blk _ _ hc
        cases e3
        refine ⟨ℓ, rfl, fun s' i hi => ?_⟩
        simp only [Mem.own]
        rw [if_neg (by intro e; cases e; omega)]
        exact hl s' i (by omega)
      · rw [gset_other _ _ e2] at hq
        refine RB.keep hle (fun b o hr => ?_) (Keeps.alloc M q w _) (fun l n' e3 hx s' i hi => ?_) x (h.blk q x hq)
        · simp only [Mem.own]
          rw [if_neg (by have := (h.own b o q hr).1; omega)]; exact hr
        · simp only [Mem.own]
          rw [if_neg]
          · exact hx s' i hi
          · intro e4; cases e4; exact e2 e3
  · obtain ⟨h1, h2⟩ := h.nf l hl
    refine ⟨?_, fun s' i => ?_⟩
    · rw [gset_other _ _ (by simp), gset_other _ _ (by intro e; cases e; exact absurd hnf (by simp only [Mem.own] at hl; omega))]
      exact h1
    · simp only [Mem.own] at hl ⊢
      rw [if_neg (by intro e; cases e; omega)]
      exact h2 s' i
  · simp only [Mem.own]
    by_cases e : q = .v ℓ s n
    · subst e; simp
    · rw [if_neg e]
      rw [gset_other _ _ e] at hq
      obtain ⟨l, s', i, e2⟩ := hv
      subst e2
      rw [gset_other _ _ (by simp)] at hq
      exact h.plc _ x hq ⟨l, s', i, rfl⟩
  · simp only [Mem.own] at hq
    split at hq
    · rename_i e; exact ⟨_, _, _, e⟩
    · exact h.plv q x hq
  · rw [World.size_alloc]; have := h.n0; simp only [Mem.own]; omega

/-- What r stands for turns, and nothing else. -/
theorem RS.turn (h : RS C M g w) {r : Ref} {w' : World} {b0 b : Blk} (hg : g r = some b0) (hk : ∀ q, q ≠ r → Keeps M q w w') (hkn : ∀ c o v, M.known c o = some v → w'.cell? ⟨c, o, none⟩ = some v) (hlow : Below C.n0 C.w0 w') (hs : w.heap.size ≤ w'.heap.size)
    (hr : ∀ l, r ≠ .ctr l) (hb : RB M r w' b) : RS C M (gset g r b) w' := by
  refine ⟨fun c o v hv => ⟨hkn c o v hv, (h.known c o v hv).2⟩, fun c o q hq => ?_, fun q x hq => ?_, fun l hl => ⟨?_, (h.nf l hl).2⟩, fun q x hq hv => ?_, h.plv, h.glob, hlow, ?_⟩
  · have := h.own c o q hq; omega
  · by_cases e : q = r
    · subst e; simp only [gset_same, Option.some.injEq] at hq; subst hq; exact hb
    · rw [gset_other _ _ e] at hq
      exact RB.keep (.refl M) (fun _ _ h => h) (hk q e) (fun _ _ _ h => h) x (h.blk q x hq)
  · rw [gset_other _ _ (fun e => hr l e.symm)]; exact (h.nf l hl).1
  · by_cases e : q = r
    · subst e; exact h.plc _ _ hg hv
    · rw [gset_other _ _ e] at hq; exact h.plc q x hq hv
  · have := h.n0; omega

end
end Go.Abs

/- The abstract layer, part 20: a frame's own list, against the whole. No conditions. -/
namespace Go.Abs
open Go.RowKit

theorem same_refl (r : Ref) : r.same r = true := by cases r <;> simp [Ref.same]
theorem same_symm (a b : Ref) : a.same b = b.same a := by
  cases a <;> cases b <;> simp only [Ref.same] <;> rw [Bool.eq_iff_iff] <;> simp only [Bool.and_eq_true, beq_iff_eq] <;> constructor <;> intro h <;> first | exact ⟨h.1.symm, h.2.symm⟩ | exact h.symm
theorem same_trans {a b c : Ref} (h : a.same b = true) (k : b.same c = true) : a.same c = true := by
  cases a <;> cases b <;> cases c <;> simp [Ref.same] at * <;> simp_all

theorem ownGet_set (l : Own) (r : Ref) (b : Blk) (q : Ref) : ownGet (ownSet l r b) q = if r.same q = true then (if r = q then some b else none) else ownGet l q := by
  induction l with
  | nil =>
    simp only [ownSet, ownGet]
    cases e : r.same q <;> simp
  | cons x l ih =>
    obtain ⟨k, c⟩ := x
    simp only [ownSet]
    cases e : k.same r with
    | true =>
      simp only [cond_true, ownGet]
      cases e2 : r.same q with
      | true => simp
      | false =>
        have : k.same q = false := by
          cases e3 : k.same q with
          | false => rfl
          | true => rw [same_symm] at e; rw [same_trans e e3] at e2; simp at e2
        simp [this]
    | false =>
      simp only [cond_false, ownGet]
      cases e3 : k.same q with
      | true =>
        have : r.same q = false := by
          cases e4 : r.same q with
          | false => rfl
          | true => rw [same_symm] at e4; rw [same_trans e3 e4] at e; simp at e
        simp [this]
      | false => simp only [cond_false]; exact ih
theorem ownGet_del (l : Own) (r : Ref) (q : Ref) (x : Blk) : ownGet (ownDel l r) q = some x → ownGet l q = some x ∧ r.same q = false := by
  induction l with
  | nil => simp [ownDel, ownGet]
  | cons y l ih =>
    obtain ⟨k, c⟩ := y
    simp only [ownDel]
    cases e : k.same r with
    | true =>
      simp only [cond_true]
      intro h
      obtain ⟨h1, h2⟩ := ih h
      refine ⟨?_, h2⟩
      simp only [ownGet]
      cases e3 : k.same q with
      | true => rw [same_symm] at e; rw [same_trans e e3] at h2; simp at h2
      | false => simpa using h1
    | false =>
      simp only [cond_false, ownGet]
      cases e3 : k.same q with
      | true =>
        simp only [cond_true]
        intro h
        refine ⟨h, ?_⟩
        cases e4 : r.same q with
        | false => rfl
        | true => rw [same_symm] at e4; rw [same_trans e3 e4] at e; simp at e
      | false =>
        simp only [cond_false]
        intro h
        exact ih h

theorem Moved.refl (g : Ref → Option Blk) (ℓ : Nat) (st : St) : Moved g g ℓ st st := ⟨fun _ _ h _ _ _ => h, fun _ h => .inl h⟩

theorem SR.get {g : Ref → Option Blk} {ℓ : Nat} {st : St} (h : SR g ℓ st) : ∀ r b, st.get r = some b → g r = some b := by
  intro r b hb
  unfold St.get at hb
  split at hb
  · rename_i x hx
    simp at hb; subst hb; exact h.own _ _ hx
  · exact h.out _ _ hb

section
variable {C : Ctx} {M : Mem} {g : Ref → Option Blk} {w : World} {ℓ : Nat} {st : St}

theorem fresh_none (hrs : RS C M g w) (h : SR g ℓ st) (t : Nat) : g (.v ℓ t st.next) = none := by
  cases e : g (.v ℓ t st.next) with
  | none => rfl
  | some b =>
    have := hrs.plc _ _ e ⟨_, _, _, rfl⟩
    obtain ⟨l, e2, hl⟩ := hrs.blk _ _ h.ctr
    cases e2
    exact (this (hl t st.next (Nat.le_refl _))).elim

theorem has_of {l : Own} {r : Ref} {b : Blk} (h : ownGet l r = some b) : l.has r := by unfold Own.has; rw [h]; simp
theorem has_iff {l : Own} {r : Ref} (h : l.has r) : ∃ b, ownGet l r = some b := by
  unfold Own.has at h
  cases e : ownGet l r with
  | none => exact (h e).elim
  | some b => exact ⟨b, rfl⟩
theorem ownSet_get {l : Own} {r : Ref} {b : Blk} {q : Ref} {x : Blk} (hq : ownGet (ownSet l r b) q = some x) : (q = r ∧ x = b) ∨ (q ≠ r ∧ ownGet l q = some x) := by
  rw [ownGet_set] at hq
  split at hq
  · split at hq
    · rename_i e; simp at hq; exact .inl ⟨e.symm, hq.symm⟩
    · simp at hq
  · rename_i e
    refine .inr ⟨fun e' => ?_, hq⟩
    subst e'; exact e (same_refl q)
theorem ownSet_has {l : Own} {r : Ref} {b : Blk} {q : Ref} (h : (ownSet l r b).has q) : q = r ∨ l.has q := by
  obtain ⟨x, hx⟩ := has_iff h
  rcases ownSet_get hx with ⟨e, _⟩ | ⟨_, h2⟩
  · exact .inl e
  · exact .inr (has_of h2)
theorem ownDel_get {l : Own} {r q : Ref} {x : Blk} (hq : ownGet (ownDel l r) q = some x) : q ≠ r ∧ ownGet l q = some x := by
  obtain ⟨h1, h2⟩ := ownGet_del l r q x hq
  exact ⟨fun e => by subst e; rw [same_refl] at h2; simp at h2, h1⟩
theorem ownDel_has {l : Own} {r q : Ref} (h : (ownDel l r).has q) : q ≠ r ∧ l.has q := by
  obtain ⟨x, hx⟩ := has_iff h
  exact ⟨(ownDel_get hx).1, has_of (ownDel_get hx).2⟩

theorem SR.new (hrs : RS C M g w) (h : SR g ℓ st) (t : Nat) (b : Blk) :
    SR (gset (gset g (.ctr ℓ) (.ctr (st.next + 1))) (.v ℓ t st.next) b) ℓ (st.new ℓ t b) ∧ Moved g (gset (gset g (.ctr ℓ) (.ctr (st.next + 1))) (.v ℓ t st.next) b) ℓ st (st.new ℓ t b) := by
  have hf := fresh_none hrs h t
  have hg : ∀ q x, g q = some x → q ≠ .ctr ℓ → gset (gset g (.ctr ℓ) (.ctr (st.next + 1))) (.v ℓ t st.next) b q = some x := by
    intro q x hq hne
    rw [gset_other, gset_other _ _ hne]
    · exact hq
    · intro e; subst e; rw [hf] at hq; simp at hq
  have hctr : ∀ q x, ownGet st.own q = some x → q ≠ .ctr ℓ := fun q x hq e => h.noctr.1 (by subst e; exact has_of hq)
  have hctr2 : ∀ q x, st.out q = some x → q ≠ .ctr ℓ := fun q x hq e => by subst e; rw [h.noctr.2] at hq; simp at hq
  refine ⟨⟨fun q x hq => ?_, fun q x hq => hg q x (h.out q x hq) (hctr2 q x hq), fun q hq => ?_, ?_, ⟨fun hh => ?_, h.noctr.2⟩⟩, ⟨fun q x hq _ _ hc => hg q x hq hc, fun q hq => ?_⟩⟩
  · rcases ownSet_get hq with ⟨rfl, rfl⟩ | ⟨_, hq⟩
    · simp
    · exact hg q x (h.own q x hq) (hctr q x hq)
  · rcases ownSet_has hq with rfl | hq
    · cases e2 : st.out (.v ℓ t st.next) with
      | none => exact e2
      | some y => rw [h.out _ _ e2] at hf; simp at hf
    · exact h.apart q hq
  · rw [gset_other _ _ (by simp)]; simp [St.new]
  · rcases ownSet_has hh with e1 | hq
    · cases e1
    · exact h.noctr.1 hq
  · rcases hq with hq | hq
    · rcases ownSet_has hq with rfl | hq
      · exact .inr hf
      · exact .inl (.inl hq)
    · exact .inl (.inr hq)

theorem get_ne {r : Ref} {b0 : Blk} (h : SR g ℓ st) (hr : st.get r = some b0) : r ≠ .ctr ℓ ∧ (st.own.has r ∨ st.out r ≠ none) := by
  unfold St.get at hr
  split at hr
  · rename_i x hx
    exact ⟨fun e => h.noctr.1 (by subst e; exact has_of hx), .inl (has_of hx)⟩
  · exact ⟨fun e => by subst e; rw [h.noctr.2] at hr; simp at hr, .inr (by rw [hr]; simp)⟩

theorem SR.upd (h : SR g ℓ st) {r : Ref} {b0 : Blk} (hr : st.get r = some b0) (b : Blk) : SR (gset g r b) ℓ (st.upd r b) ∧ Moved g (gset g r b) ℓ st (st.upd r b) := by
  obtain ⟨hne, hin⟩ := get_ne h hr
  have hg : ∀ q x, g q = some x → q ≠ r → gset g r b q = some x := fun q x hq hn => by rw [gset_other _ _ hn]; exact hq
  unfold St.upd
  cases e : ownGet st.own r with
  | some y =>
    simp only
    have hno : st.out r = none := h.apart r (has_of e)
    refine ⟨⟨fun q x hq => ?_, fun q x hq => hg q x (h.out q x hq) (fun e' => by subst e'; rw [hno] at hq; simp at hq), fun q hq => ?_, by rw [gset_other _ _ hne.symm]; exact h.ctr, ⟨fun hh => ?_, h.noctr.2⟩⟩, ⟨fun q x hq h1 h2 _ => hg q x hq (fun e' => ?_), fun q hq => ?_⟩⟩
    · rcases ownSet_get hq with ⟨rfl, rfl⟩ | ⟨hn, hq⟩
      · simp
      · exact hg q x (h.own q x hq) hn
    · rcases ownSet_has hq with rfl | hq1
      · exact hno
      · exact h.apart q hq1
    · rcases ownSet_has hh with e' | hq1
      · exact hne e'.symm
      · exact h.noctr.1 hq1
    · subst e'; exact h1 (has_of e)
    · rcases hq with hq | hq
      · rcases ownSet_has hq with rfl | hq1
        · exact .inl hin
        · exact .inl (.inl hq1)
      · exact .inl (.inr hq)
  | none =>
    simp only
    have hno : ¬ st.own.has r := fun h2 => h2 e
    refine ⟨⟨fun q x hq => hg q x (h.own q x hq) (fun e' => hno (by subst e'; exact has_of hq)), fun q x hq => ?_, fun q hq => ?_, by rw [gset_other _ _ hne.symm]; exact h.ctr, ⟨h.noctr.1, ?_⟩⟩, ⟨fun q x hq h1 h2 _ => hg q x hq (fun e' => ?_), fun q hq => ?_⟩⟩
    · simp only [gset] at hq
      split at hq
      · rename_i e'; subst e'; simp at hq; subst hq; simp
      · rename_i hn; exact hg q x (h.out q x hq) hn
    · have : q ≠ r := fun e' => hno (by subst e'; exact hq)
      show gset st.out r b q = none
      rw [gset_other _ _ this]; exact h.apart q hq
    · show gset st.out r b _ = none
      rw [gset_other _ _ hne.symm]; exact h.noctr.2
    · subst e'; rcases hin with hi | hi
      · exact hno hi
      · exact hi h2
    · rcases hq with hq | hq
      · exact .inl (.inl hq)
      · by_cases e' : q = r
        · subst e'; exact .inl hin
        · have hq : gset st.out r b q ≠ none := hq
          rw [gset_other _ _ e'] at hq; exact .inl (.inr hq)

theorem SR.del (h : SR g ℓ st) {r : Ref} {b0 : Blk} (hr : st.get r = some b0) : SR (gdel g r) ℓ (st.del r) ∧ Moved g (gdel g r) ℓ st (st.del r) := by
  obtain ⟨hne, hin⟩ := get_ne h hr
  have hg : ∀ q x, g q = some x → q ≠ r → gdel g r q = some x := fun q x hq hn => by rw [gdel_other _ hn]; exact hq
  unfold St.del
  cases e : ownGet st.own r with
  | some y =>
    simp only
    have hno : st.out r = none := h.apart r (has_of e)
    refine ⟨⟨fun q x hq => ?_, fun q x hq => hg q x (h.out q x hq) (fun e' => by subst e'; rw [hno] at hq; simp at hq), fun q hq => h.apart q (ownDel_has hq).2, by rw [gdel_other _ hne.symm]; exact h.ctr, ⟨fun hh => h.noctr.1 (ownDel_has hh).2, h.noctr.2⟩⟩, ⟨fun q x hq h1 h2 _ => hg q x hq (fun e' => ?_), fun q hq => ?_⟩⟩
    · obtain ⟨hn, hq⟩ := ownDel_get hq
      exact hg q x (h.own q x hq) hn
    · subst e'; exact h1 (has_of e)
    · rcases hq with hq | hq
      · exact .inl (.inl (ownDel_has hq).2)
      · exact .inl (.inr hq)
  | none =>
    simp only
    have hno : ¬ st.own.has r := fun h2 => h2 e
    refine ⟨⟨fun q x hq => hg q x (h.own q x hq) (fun e' => hno (by subst e'; exact has_of hq)), fun q x hq => ?_, fun q hq => ?_, by rw [gdel_other _ hne.symm]; exact h.ctr, ⟨h.noctr.1, ?_⟩⟩, ⟨fun q x hq h1 h2 _ => hg q x hq (fun e' => ?_), fun q hq => ?_⟩⟩
    · simp only [gdel] at hq
      split at hq
      · simp at hq
      · rename_i hn; exact hg q x (h.out q x hq) hn
    · show gdel st.out r q = none
      simp only [gdel]; split
      · rfl
      · exact h.apart q hq
    · show gdel st.out r _ = none
      rw [gdel_other _ hne.symm]; exact h.noctr.2
    · subst e'; rcases hin with hi | hi
      · exact hno hi
      · exact hi h2
    · rcases hq with hq | hq
      · exact .inl (.inl hq)
      · have hq : gdel st.out r q ≠ none := hq
        simp only [gdel] at hq
        split at hq
        · exact (hq rfl).elim
        · exact .inl (.inr hq)

theorem Moved.trans {g g1 g2 : Ref → Option Blk} {st st1 st2 : St} (h : Moved g g1 ℓ st st1) (k : Moved g1 g2 ℓ st1 st2) (hno : ¬ st2.own.has (.ctr ℓ) ∧ st2.out (.ctr ℓ) = none) : Moved g g2 ℓ st st2 := by
  refine ⟨fun q b hq h1 h2 h3 => ?_, fun q hq => ?_⟩
  · have h0 : ¬ st1.own.has q ∧ st1.out q = none := by
      constructor
      · intro h4
        rcases h.keys q (.inl h4) with (h5 | h5) | h5
        · exact h1 h5
        · exact h5 h2
        · rw [hq] at h5; simp at h5
      · cases e : st1.out q with
        | none => rfl
        | some x =>
          rcases h.keys q (.inr (by rw [e]; simp)) with (h5 | h5) | h5
          · exact (h1 h5).elim
          · exact (h5 h2).elim
          · rw [hq] at h5; simp at h5
    exact k.frame q b (h.frame q b hq h1 h2 h3) h0.1 h0.2 h3
  · rcases k.keys q hq with (h4 | h4) | h4
    · exact h.keys q (.inl h4)
    · exact h.keys q (.inr h4)
    · -- q was nowhere behind the first step
      cases e : g q with
      | none => exact .inr rfl
      | some b =>
        by_cases h5 : st.own.has q
        · exact .inl (.inl h5)
        · by_cases h6 : st.out q = none
          · by_cases h7 : q = .ctr ℓ
            · subst h7; rcases hq with hq | hq
              · exact (hno.1 hq).elim
              · exact (hq hno.2).elim
            · rw [h.frame q b e h5 h6 h7] at h4; simp at h4
          · exact .inl (.inr h6)

end
end Go.Abs

/- The abstract layer, part 21: operations that make a thing, or turn one, at the machine. No conditions. -/
namespace Go.Abs
open Go.RowKit

/-- The machine's operation takes one state of a frame to another one. -/
def WOk (C : Ctx) (M : Mem) (g : Ref → Option Blk) (w : World) (ℓ : Nat) (st st' : St) (s : Sem Next) (dv : D) : Prop :=
  ∃ M' g' w' u, (s.run C.P w = .ok (.value u) w' ∨ (s.run C.P w = .ok .skip w' ∧ u = undef)) ∧ M.le M' ∧ RS C M' g' w' ∧ VD M' dv u ∧ SR g' ℓ st' ∧ Moved g g' ℓ st st'

section
variable {C : Ctx} {c : Cfg} {M : Mem} {g : Ref → Option Blk} {w : World} {ℓ : Nat} {st : St}

theorem undef_ok (M : Mem) : VD M undefD undef := by simp only [undefD, undef, VD, V]; exact ⟨_, rfl, by simp [Vl]⟩

/-- A new thing. -/
theorem new_ok (hrs : RS C M g w) (hsr : SR g ℓ st) {t : Nat} {o : Obj} {p : Place} {b : Blk} {d : D} {u : Value} {s : Sem Next}
    (hrun : s.run C.P w = .ok (.value u) (w.alloc o)) (hb : RB (M.own (.v ℓ t st.next) p w.heap.size) (.v ℓ t st.next) (w.alloc o) b) (hd : VD (M.own (.v ℓ t st.next) p w.heap.size) d u) : WOk C M g w ℓ st (st.new ℓ t b) s d := by
  obtain ⟨h1, h2⟩ := hrs.new hsr.ctr o p b hb
  obtain ⟨h3, h4⟩ := hsr.new hrs t b
  exact ⟨_, _, _, u, .inl hrun, h1, h2, hd, h3, h4⟩

theorem own_place (M : Mem) (r : Ref) (p : Place) (b : Nat) : (M.own r p b).place r = some p := by simp [Mem.own]
theorem own_owner (M : Mem) (r : Ref) (p : Place) (b o : Nat) : (M.own r p b).owner b o = some r := by simp [Mem.own]

theorem new_cells (hrs : RS C M g w) (hsr : SR g ℓ st) {t : Nat} {a : Array Value} {cs : List D} (ha : ArrD M a cs) (el : TypeId) {s : Sem Next}
    (hrun : s.run C.P w = .ok (.value (.pointer (some ⟨w.heap.size, 0, none⟩))) (w.alloc (.cells a el))) : WOk C M g w ℓ st (st.new ℓ t (.cells cs)) s (.ptr (.v ℓ t st.next) 0) := by
  have hpl : M.place (.v ℓ t st.next) = none := by
    obtain ⟨l, e, hl⟩ := hrs.blk _ _ hsr.ctr
    cases e
    exact hl t st.next (Nat.le_refl _)
  refine new_ok hrs hsr (p := ⟨w.heap.size, 0, a.size, 1⟩) hrun ?_ ?_
  · refine ⟨_, own_place _ _ _ _, rfl, a, el, World.alloc_heap_new w _, ha.1, fun j d hj => ⟨own_owner _ _ _ _ _, ?_⟩⟩
    obtain ⟨v, h1, h2, h3⟩ := ha.2 j d hj
    exact ⟨v, h1, h2, VD.mono (Mem.own_le hpl) _ _ h3⟩
  · simp only [VD]
    exact ⟨_, own_place _ _ _ _, rfl⟩

theorem alloc_ok (hc : CfgOk C.P c) (hrs : RS C M g w) (hsr : SR g ℓ st) {t : Nat} {e : TypeId} (hz : (c.ty e).zero.cells ≠ []) : WOk C M g w ℓ st (st.new ℓ t (.cells ((c.ty e).zero.cells.map .dat))) (do pure (.value (← Instr.alloc e true (.tuple #[])))) (.ptr (.v ℓ t st.next) 0) := by
  have hne : (c.ty e).zero ≠ .any := by intro e'; rw [e'] at hz; simp [Dat.cells] at hz
  obtain ⟨i, d, ty⟩ := hc.of_zero hne
  obtain ⟨zv, h1, _, h2⟩ := ty.run_zero (w := w) hne M
  obtain ⟨h3, h4⟩ := V_cells h2 hz
  refine new_cells hrs hsr (a := zv.cells) ⟨by simpa using h3.symm, h4⟩ e ?_
  simp [Instr.alloc, h1, newVar, newRow]

theorem box_ok (hrs : RS C M g w) (hsr : SR g ℓ st) {t : Nat} {e : TypeId} {x : D} {u : Value} (hx : VD M x u) (hn : x.cells ≠ []) : WOk C M g w ℓ st (st.new ℓ t (.cells x.cells)) (do pure (.value (← Instr.box e u))) (.ptr (.v ℓ t st.next) 0) := by
  obtain ⟨h3, h4⟩ := VD_cells hx hn
  refine new_cells hrs hsr (a := u.cells) ⟨h3.symm, h4⟩ e ?_
  simp [Instr.box, newVar, newRow]

theorem mkmap_ok (hrs : RS C M g w) (hsr : SR g ℓ st) {t : Nat} {ty : TypeId} : WOk C M g w ℓ st (st.new ℓ t (.map [])) (do pure (.value (← Instr.makeMap ty none))) (.map (.v ℓ t st.next)) := by
  refine new_ok hrs hsr (o := .map #[] 0) (p := ⟨w.heap.size, 0, 0, 1⟩) (u := .map (some w.heap.size)) (by simp [Instr.makeMap]) ?_ ?_
  · exact ⟨_, own_place _ _ _ _, own_owner _ _ _ _ _, #[], 0, World.alloc_heap_new w _, rfl, fun j e k d h => by simp at h, fun i j e e' h => by simp at h, fun j e h => by simp at h⟩
  · simp only [VD]; exact ⟨_, own_place _ _ _ _, rfl⟩

/-! ### Storing -/

theorem flat_oneCell {v : Value} (h : flatV v) : v.oneCell' = true := by cases v <;> simp_all [flatV, Value.oneCell']

theorem store_run {b o : Nat} {cur : Array Value} {t : TypeId} (hg : w.heap[b]? = some (.cells cur t (0, 0))) {vs : List Value} (hl : o + vs.length ≤ cur.size) (hf : ∀ v ∈ vs, flatV v) :
    (storeCells ⟨b, o, none⟩ vs).run C.P w = .ok () (w.setRow b (layV cur o vs)) := by
  have h := run_storeCells_at C.P b o t vs 0 cur w hg (by simpa using hl) (fun v hv => flat_oneCell (hf v hv))
  rw [h]
  congr 2
  apply Array.ext'
  apply List.ext_getElem?
  intro j
  simp only [Nat.add_zero]
  have e1 : (layV cur o vs).toList[j]? = (layV cur o vs)[j]? := Array.getElem?_toList
  rw [e1, layV_get]
  simp only [List.getElem?_append, List.getElem?_take, List.length_take, List.getElem?_drop, List.length_append, Array.length_toList]
  have hm : min o cur.size = o := by omega
  simp only [hm]
  by_cases h1 : j < o
  · rw [if_pos (by omega), if_pos h1, if_pos h1, if_neg (by omega)]; simp
  · by_cases h2 : j < o + vs.length
    · rw [if_pos (by omega), if_neg h1, if_pos (by omega)]
    · rw [if_neg (by omega), if_neg (by omega)]
      simp only [Array.getElem?_toList]
      congr 1; omega

theorem setRow_at {b : Nat} {cur a : Array Value} {t : TypeId} {fr : Nat × Nat} (hg : w.heap[b]? = some (.cells cur t fr)) : (w.setRow b a).heap[b]? = some (.cells a t fr) := setRow_heap w b cur a t fr hg

/-- Cells of r's turn. -/
theorem turn_cells (hrs : RS C M g w) {r : Ref} {b0 b : Blk} (hgr : g r = some b0) (hr : ∀ l, r ≠ .ctr l) {blk : Nat} {cur a : Array Value} {t : TypeId} (hg : w.heap[blk]? = some (.cells cur t (0, 0))) (hsz : a.size = cur.size)
    (hown : ∀ j, a[j]? ≠ cur[j]? → M.owner blk j = some r) (hb : RB M r (w.setRow blk a) b) (hn0 : C.n0 ≤ blk) : RS C M (gset g r b) (w.setRow blk a) := by
  have hlt : blk < w.heap.size := (Array.getElem?_eq_some_iff.1 hg).1
  refine hrs.turn hgr (fun q hq => ⟨fun c a' el hh => ?_, fun c o _ hh ho => ?_⟩) (fun c o v hk => ?_) ?_ (by simp) hr hb
  · by_cases e : c = blk
    · subst e
      rw [hg] at hh
      cases hh
      refine ⟨a, setRow_at hg, hsz, fun j hj => ?_⟩
      by_cases e : a[j]? = cur[j]?
      · exact e
      · have := hown j e; rw [hj] at this; cases this; exact (hq rfl).elim
    · exact ⟨a', by rw [setRow_other w blk c a e]; exact hh, rfl, fun _ _ => rfl⟩
  · by_cases e : c = blk
    · subst e; rw [hg] at hh; cases hh; simp [Obj.isCells] at ho
    · rw [setRow_other w blk c a e]; exact hh
  · obtain ⟨h1, h2⟩ := hrs.known c o v hk
    by_cases e : c = blk
    · subst e
      simp only [World.cell?, hg] at h1
      simp only [World.cell?, setRow_at hg]
      simp at h1 ⊢
      by_cases e : a[o]? = cur[o]?
      · rw [e]; exact h1
      · have := hown o e; rw [h2] at this; simp at this
    · rw [World.cell?_of_block (w := w) (setRow_other w blk c a e)]; exact h1
  · exact hrs.low.trans ⟨rfl, rfl, rfl, by simp, fun k hk => setRow_other w blk k a (by omega)⟩

theorem storeSt_ok (hc : CfgOk C.P c) (hrs : RS C M g w) (hsr : SR g ℓ st) {t : TypeId} {a x : D} {ua ux : Value} (ha : VD M a ua) (hx : VD M x ux) {st' : St} (hs : storeSt st (c.ty t).size x a = some st') :
    WOk C M g w ℓ st st' (do Instr.storeAt t ua ux; pure .skip) undefD := by
  -- the common part
  have key : ∀ (r : Ref) (off : Nat) (p : Place) (cur : Array Value) (el : TypeId) (b0 b : Blk), st.get r = some b0 → M.place r = some p → ua = .pointer (some ⟨p.blk, p.off + off, none⟩) → w.heap[p.blk]? = some (.cells cur el (0, 0)) →
      (c.ty t).size ≠ 0 → x.cells.length = (c.ty t).size → p.off + off + (c.ty t).size ≤ cur.size → (∀ j, p.off + off ≤ j → j < p.off + off + (c.ty t).size → M.owner p.blk j = some r) →
      (∀ u : Value, u = ux → RB M r (w.setRow p.blk (layV cur (p.off + off) ux.cells.toList)) b) → st' = st.upd r b → WOk C M g w ℓ st st' (do Instr.storeAt t ua ux; pure .skip) undefD := by
    intro r off p cur el b0 b hgr hp hua hh hs0 hxl hfit hown hb hst
    subst hua hst
    obtain ⟨i, d, ty⟩ := hc.of_size hs0
    obtain ⟨h3, h4⟩ := VD_cells hx (by intro e; rw [e] at hxl; simp at hxl; omega)
    have hlay := store_run (C := C) (w := w) hh (o := p.off + off) (vs := ux.cells.toList) (by simp; omega) (fun v hv => by
      obtain ⟨j, hj, e⟩ := List.getElem_of_mem hv
      have hj' : j < ux.cells.size := by simpa using hj
      obtain ⟨y, f1, f2, f3⟩ := h4 j (x.cells[j]'(by omega)) (by simp)
      have f1' : ux.cells[j]? = some y := f1
      rw [Array.getElem?_eq_getElem hj'] at f1'
      simp at f1'
      rw [← e, Array.getElem_toList, f1']; exact f2)
    obtain ⟨h5, h6⟩ := hsr.upd hgr b
    have hrc : ∀ l, r ≠ .ctr l := by intro l e; obtain ⟨_, _, _, e2⟩ := hrs.plv r p hp; rw [e2] at e; cases e
    have h7 := turn_cells hrs (hsr.get _ _ hgr) hrc hh (a := layV cur (p.off + off) ux.cells.toList) (layV_size _ _ _) (fun j hj => by
      refine hown j ?_ ?_
      · rcases Nat.lt_or_ge j (p.off + off) with h | h
        · exact (hj (by rw [layV_get, if_neg (by omega)])).elim
        · exact h
      · rcases Nat.lt_or_ge j (p.off + off + (c.ty t).size) with h | h
        · exact h
        · exact (hj (by rw [layV_get, if_neg (by simp; omega)])).elim) (hb ux rfl) (hrs.own p.blk (p.off + off) r (hown _ (Nat.le_refl _) (by omega))).2
    refine ⟨M, _, _, undef, .inr ⟨?_, rfl⟩, .refl M, h7, undef_ok M, h5, h6⟩
    have hsz : ux.cells.size = (c.ty t).size := by omega
    simp only [Instr.storeAt, Instr.sureAddr, storeVar, Sem.run_bind, Sem.run_pure, Result.andThen_ok, ty.run_sizeOf, hsz, ne_eq, not_true_eq_false, if_false, hlay]
  unfold storeSt at hs
  split at hs
  case h_2 => simp at hs
  rename_i r off
  simp only [VD] at ha
  obtain ⟨p, hp, rfl⟩ := ha
  have lay : ∀ (cs : List D) (cur : Array Value) (o' : Nat), x.cells.length = (c.ty t).size → (c.ty t).size ≠ 0 → off + (c.ty t).size ≤ cs.length → (∀ j d, cs[j]? = some d → ∃ v, cur[o' + j]? = some v ∧ flatV v ∧ VD M d v) →
      ∀ j d, (setAt cs off x.cells)[j]? = some d → ∃ v, (layV cur (o' + off) ux.cells.toList)[o' + j]? = some v ∧ flatV v ∧ VD M d v := by
    intro cs cur o' hxl hs0 hfit hcs j d hj
    obtain ⟨h3, h4⟩ := VD_cells hx (by intro e; rw [e] at hxl; simp at hxl; omega)
    rw [setAt_get] at hj
    rw [layV_get]
    by_cases h5 : off ≤ j ∧ j < off + x.cells.length ∧ j < cs.length
    · rw [if_pos h5] at hj
      obtain ⟨y, f1, f2, f3⟩ := h4 _ _ hj
      have f1' : ux.cells[j - off]? = some y := f1
      obtain ⟨v0, g1, _⟩ := hcs j cs[j] (List.getElem?_eq_getElem h5.2.2)
      have hlt : o' + j < cur.size := by
        rcases Nat.lt_or_ge (o' + j) cur.size with h | h
        · exact h
        · rw [Array.getElem?_eq_none h] at g1; simp at g1
      rw [if_pos (by simp; omega)]
      refine ⟨y, ?_, f2, f3⟩
      rw [Array.getElem?_toList, ← f1']; congr 1; omega
    · rw [if_neg h5] at hj
      rw [if_neg]
      · exact hcs j d hj
      · have : j < cs.length := by
          rcases Nat.lt_or_ge j cs.length with h | h
          · exact h
          · rw [List.getElem?_eq_none h] at hj; simp at hj
        simp; omega
  split at hs
  · rename_i cs hg
    split at hs
    case isFalse => simp at hs
    rename_i hcnd
    simp at hs
    obtain ⟨p', hp', ho, cur, el, hh, hsz, hcs⟩ := hrs.blk _ _ (hsr.get _ _ hg)
    rw [hp] at hp'; cases hp'
    refine key r off p cur el _ (.cells (setAt cs off x.cells)) hg hp rfl hh hcnd.1 hcnd.2.1 (by omega) (fun j h1 h2 => ?_) (fun u _ => ?_) hs.symm
    · rw [ho] at h1 h2
      exact (hcs j cs[j] (List.getElem?_eq_getElem (by omega))).1
    · refine ⟨p, hp, ho, _, el, setRow_at hh, by rw [layV_size, setAt_length]; exact hsz, fun j d hj => ?_⟩
      have hjl : j < cs.length := by
        rcases Nat.lt_or_ge j cs.length with h | h
        · exact h
        · rw [List.getElem?_eq_none (by rw [setAt_length]; exact h)] at hj; simp at hj
      refine ⟨(hcs j cs[j] (List.getElem?_eq_getElem hjl)).1, ?_⟩
      have := lay cs cur 0 hcnd.2.1 hcnd.1 hcnd.2.2 (fun j d hj => by rw [Nat.zero_add]; exact (hcs j d hj).2) j d hj
      rw [ho]; simpa using this
  · rename_i k gg cs hg
    split at hs
    case isFalse => simp at hs
    rename_i hcnd
    simp at hs
    obtain ⟨p', hp', hk', hfit, cur, el, hh, hsz, hown, hcs⟩ := hrs.blk _ _ (hsr.get _ _ hg)
    rw [hp] at hp'; cases hp'
    refine key r off p cur el _ (.arr k gg (setAt cs off x.cells)) hg hp rfl hh hcnd.1 hcnd.2.1 (by omega) (fun j h1 h2 => hown j (by omega) (by omega)) (fun u _ => ?_) hs.symm
    exact ⟨p, hp, hk', by rw [setAt_length]; exact hfit, _, el, setRow_at hh, by rw [layV_size]; exact hsz, hown, fun j d hj => lay cs cur p.off hcnd.2.1 hcnd.1 hcnd.2.2 hcs j d hj⟩
  · simp at hs

end
end Go.Abs

/- The abstract layer, part 22: maps that are turned, at the machine. No conditions. -/
namespace Go.Abs
open Go.RowKit

section
variable {C : Ctx} {c : Cfg} {M : Mem} {g : Ref → Option Blk} {w : World} {ℓ : Nat} {st : St}

theorem heap_set {blk k : Nat} {o' : Obj} : ({ w with heap := w.heap.setIfInBounds blk o' } : World).heap[k]? = if blk = k then (if k < w.heap.size then some o' else none) else w.heap[k]? := by
  show (w.heap.setIfInBounds blk o')[k]? = _
  rw [Array.getElem?_setIfInBounds]
  split
  · rename_i e; subst e; split <;> simp_all
  · rfl

theorem turn_obj (hrs : RS C M g w) {r : Ref} {b0 b : Blk} (hgr : g r = some b0) (hr : ∀ l, r ≠ .ctr l) {blk : Nat} {o o' : Obj} (hg : w.heap[blk]? = some o) (ho : o.isCells = false) (hown : M.owner blk 0 = some r)
    (hb : RB M r { w with heap := w.heap.setIfInBounds blk o' } b) : RS C M (gset g r b) { w with heap := w.heap.setIfInBounds blk o' } := by
  have hlt : blk < w.heap.size := (Array.getElem?_eq_some_iff.1 hg).1
  have hn0 := (hrs.own blk 0 r hown).2
  have hcell : ∀ a : Addr, a.block ≠ blk → ({ w with heap := w.heap.setIfInBounds blk o' } : World).cell? a = w.cell? a := by
    intro a ha
    exact World.cell?_of_block (w := w) (by rw [heap_set, if_neg (fun e => ha e.symm)])
  refine hrs.turn hgr (fun q hq => ⟨fun c a' el hh => ?_, fun c o2 h1 hh ho2 => ?_⟩) (fun c o2 v hk => ?_) ?_ (by simp) hr hb
  · have e : blk ≠ c := by intro e; subst e; rw [hg] at hh; cases hh; simp [Obj.isCells] at ho
    exact ⟨a', by rw [heap_set, if_neg e]; exact hh, rfl, fun _ _ => rfl⟩
  · have e : blk ≠ c := by intro e; subst e; rw [hown] at h1; cases h1; exact (hq rfl).elim
    rw [heap_set, if_neg e]; exact hh
  · obtain ⟨h1, h2⟩ := hrs.known c o2 v hk
    have e : c ≠ blk := by
      intro e; subst e
      simp only [World.cell?, hg] at h1
      cases o <;> first | (simp [Obj.isCells] at ho; done) | simp at h1
    rw [hcell ⟨c, o2, none⟩ e]; exact h1
  · exact hrs.low.trans ⟨rfl, rfl, rfl, by simp, fun k hk => by rw [heap_set, if_neg (by omega)]⟩

theorem sameBits_cell {q : KC} {u v : Value} {n : Nat} (h : eqV q u v = some true) : Instr.sameBits n u v = true := by
  cases q <;> cases u <;> cases v <;> simp only [eqV, reduceCtorEq] at h
  · split at h
    · rename_i e; simp at h; subst e h; cases n <;> simp [Instr.sameBits]
    · simp at h
  · simp at h; subst h; cases n <;> simp [Instr.sameBits, beq_toListBytes]
  · simp at h; subst h; cases n <;> simp [Instr.sameBits]

theorem sameBits_key {t : TypeId} (hc : CfgOk C.P c) {q : KT} (hq : keyTy (c.ty t) = some q) {k x : Dat} {u v : Value} (hk : V M k u) (hx : V M x v) (h : eqKey q k x = some true) : Instr.sameBits 10000 v u = true := by
  have sym : ∀ {q : KC} {u v : Value}, eqV q u v = some true → eqV q v u = some true := by
    intro q u v h
    cases q <;> cases u <;> cases v <;> simp only [eqV, reduceCtorEq] at h ⊢
    · split at h
      · rename_i e; subst e; simp at h; simp [h]
      · simp at h
    · simp at h; simp [h]
    · simp at h; simp [h]
  cases q with
  | c q => exact sameBits_cell (sym (eqC_V hk hx h))
  | st ks =>
    obtain ⟨xs, ys, rfl, rfl, h⟩ := eqKey_st h
    simp only [V] at hk hx
    obtain ⟨a, rfl, h1, _⟩ := hk
    obtain ⟨b, rfl, h2, _⟩ := hx
    obtain ⟨n1, n2⟩ := eqCs_len h
    obtain ⟨l1, l2⟩ := Vl_get h1
    obtain ⟨m1, m2⟩ := Vl_get h2
    simp at l1 m1
    have hall : ∀ (j : Nat) k, ks[j]? = some k → ∃ p r, a[j]? = some p ∧ b[j]? = some r ∧ Instr.sameBits 9999 r p = true := by
      intro j k hj
      obtain ⟨X, Y, cc, e1, e2, e3⟩ := eqCs_at h j k hj
      obtain ⟨p, g1, g2⟩ := l2 j X e1
      obtain ⟨r, g3, g4⟩ := m2 j Y e2
      have hcc : cc = true := by
        have key : ∀ (ks : List KC) (xs ys : List Dat), eqCs ks xs ys = some true → ∀ (j : Nat) k X Y cc, ks[j]? = some k → xs[j]? = some X → ys[j]? = some Y → eqC k X Y = some cc → cc = true := by
          intro ks
          induction ks with
          | nil => intro xs ys _ j k X Y cc hj; simp at hj
          | cons k0 ks ih =>
            intro xs ys h j k X Y cc h1 h2 h3 h4
            cases xs with
            | nil => simp [eqCs] at h
            | cons x xs =>
              cases ys with
              | nil => simp [eqCs] at h
              | cons y ys =>
                simp only [eqCs] at h
                split at h
                · rename_i p r e1 e2
                  simp at h
                  obtain ⟨rfl, rfl⟩ := h
                  cases j with
                  | zero => simp at h1 h2 h3; subst h1 h2 h3; rw [e1] at h4; simpa using h4.symm
                  | succ j => exact ih xs ys e2 j k X Y cc (by simpa using h1) (by simpa using h2) (by simpa using h3) h4
                · simp at h
        exact key ks xs ys h j k X Y cc hj e1 e2 e3
      subst hcc
      exact ⟨p, r, by simpa using g1, by simpa using g3, sameBits_cell (sym (eqC_V g2 g4 e3))⟩
    have : (Instr.sameBits (9999 + 1) (.agg b) (.agg a)) = true := by
      simp only [Instr.sameBits, Bool.and_eq_true, beq_iff_eq, List.all_eq_true]
      refine ⟨by omega, fun p hp => ?_⟩
      obtain ⟨j, hj, e⟩ := List.getElem_of_mem hp
      simp only [List.getElem_zip] at e
      have hj' : j < ks.length := by simp at hj; omega
      obtain ⟨p', r', f1, f2, f3⟩ := hall j ks[j] (List.getElem?_eq_getElem hj')
      have ha : j < a.size := by omega
      have hb : j < b.size := by omega
      rw [Array.getElem?_eq_getElem ha] at f1
      rw [Array.getElem?_eq_getElem hb] at f2
      simp at f1 f2
      rw [← e]
      simp only [Array.getElem_toList, f1, f2]
      exact f3
    exact this

theorem findK_at {q : KT} {k : Dat} : ∀ {es : List (Dat × D)} {j : Nat} {d : D}, findK q k es = some (some (j, d)) → ∃ x, es[j]? = some (x, d) ∧ eqKey q k x = some true
  | [], _, _, h => by simp [findK] at h
  | (x, d0) :: es, j, d, h => by
    simp only [findK] at h
    split at h
    · rename_i e; simp at h; obtain ⟨rfl, rfl⟩ := h; exact ⟨x, by simp, e⟩
    · simp only [Option.map_eq_some_iff] at h
      obtain ⟨o, ho, h⟩ := h
      obtain ⟨⟨j', d'⟩, rfl, h⟩ := h
      simp at h
      obtain ⟨rfl, rfl⟩ := h
      obtain ⟨y, h1, h2⟩ := findK_at ho
      exact ⟨y, by simpa using h1, h2⟩
    · simp at h

theorem mapset_ok (hc : CfgOk C.P c) {t : TypeId} {kt e : Nat} (hkind : (c.ty t).kind = .map kt e) {q : KT} (hq : keyTy (c.ty kt) = some q) (hrs : RS C M g w) (hsr : SR g ℓ st) {m k x : D} {um uk ux : Value} (hm : VD M m um) (hk : VD M k uk) (hx : VD M x ux) {st' : St}
    (hs : mapsetSt q st m k x = some st') : WOk C M g w ℓ st st' (do Instr.mapUpdate t um uk ux; pure .skip) undefD := by
  obtain ⟨it, td, ty⟩ := hc.of_kind (t := t) (by rw [hkind]; simp)
  have htd := ty.map hkind
  subst htd
  unfold mapsetSt at hs
  split at hs
  case h_2 => simp at hs
  rename_i r k
  split at hs
  case h_2 => simp at hs
  rename_i es hg
  split at hs
  case isFalse => simp at hs
  rename_i hok
  simp only [mapPut, Option.map_map, Option.map_eq_some_iff] at hs
  obtain ⟨o, ho, rfl⟩ := hs
  simp only [VD] at hm hk
  obtain ⟨p, hp, rfl⟩ := hm
  obtain ⟨p', hp', how, en, cl, hh, hsz, hen, hb1, hb2⟩ := hrs.blk _ _ (hsr.get _ _ hg)
  rw [hp] at hp'; cases hp'
  have hE : EnR M en.toList es := ⟨by simpa using hsz, fun j e k d h1 h2 => hen j e k d (by simpa using h1) h2⟩
  obtain ⟨rr, hr1, hr2⟩ := find_ok (w := w) hc hq hk hE ho
  have hchk := check_ok (w := w) hc hq hk hok (em := false)
  have hrc : ∀ l, r ≠ .ctr l := by intro l e; obtain ⟨_, _, _, e2⟩ := hrs.plv r p hp; rw [e2] at e; cases e
  have hlt : p.blk < w.heap.size := (Array.getElem?_eq_some_iff.1 hh).1
  cases o with
  | none =>
    have : rr = none := by cases rr <;> simp_all [FoundR]
    subst this
    obtain ⟨h5, h6⟩ := hsr.upd hg (.map (es ++ [(k, x)]))
    have hnew : RB M r { w with heap := w.heap.setIfInBounds p.blk (.map (en.push { key := uk, val := ux, born := cl }) (cl + 1)) } (.map (es ++ [(k, x)])) := by
      refine ⟨p, hp, how, _, _, by rw [heap_set, if_pos rfl, if_pos hlt], by simp [hsz], fun j e kk d h1 h2 => ?_, fun i j e e' h1 h2 hij => ?_, fun j e h1 => ?_⟩
      · rw [Array.getElem?_push] at h1
        split at h1
        · rename_i e1; simp at h1; subst h1
          rw [e1, hsz, List.getElem?_append_right (Nat.le_refl _)] at h2
          simp at h2; obtain ⟨rfl, rfl⟩ := h2
          exact ⟨hk, hx⟩
        · have hj : j < en.size := by
            rcases Nat.lt_or_ge j en.size with h | h
            · exact h
            · rw [Array.getElem?_eq_none h] at h1; simp at h1
          rw [List.getElem?_append_left (by omega)] at h2
          exact hen j e kk d h1 h2
      · rw [Array.getElem?_push] at h1 h2
        split at h1
        · rename_i e1
          split at h2
          · omega
          · have hj : j < en.size := by
              rcases Nat.lt_or_ge j en.size with h | h
              · exact h
              · rw [Array.getElem?_eq_none h] at h2; simp at h2
            omega
        · split at h2
          · simp at h2; subst h2; exact hb2 i e h1
          · exact hb1 i j e e' h1 h2 hij
      · rw [Array.getElem?_push] at h1
        split at h1
        · simp at h1; subst h1; simp
        · have := hb2 j e h1; omega
    have h7 := turn_obj hrs (hsr.get _ _ hg) hrc hh rfl how hnew
    refine ⟨M, _, _, undef, .inr ⟨?_, rfl⟩, .refl M, h7, undef_ok M, h5, h6⟩
    simp [Instr.mapUpdate, ty.run_underlying, run_getObj_at hh rfl, hchk, hr1, run_setObj_at (C := C) hh rfl]
  | some o =>
    obtain ⟨j, d0⟩ := o
    cases rr with
    | none => simp [FoundR] at hr2
    | some rr =>
      obtain ⟨j', v0⟩ := rr
      simp only [FoundR] at hr2
      obtain ⟨hj, _, e0, he0, _⟩ := hr2
      simp at hj; subst hj
      have he0' : en[j']? = some e0 := by simpa using he0
      obtain ⟨x0, hx0, hx1⟩ := findK_at ho
      have hsame : Instr.sameBits 10000 e0.key uk = true := sameBits_key hc hq hk (hen j' e0 x0 d0 he0' hx0).1 hx1
      obtain ⟨h5, h6⟩ := hsr.upd hg (.map (es.set j' (k, x)))
      have hnew : RB M r { w with heap := w.heap.setIfInBounds p.blk (.map (en.modify j' fun e => { e with key := uk, val := ux }) cl) } (.map (es.set j' (k, x))) := by
        refine ⟨p, hp, how, _, _, by rw [heap_set, if_pos rfl, if_pos hlt], by simp [hsz], fun j e kk d h1 h2 => ?_, fun i j e e' h1 h2 hij => ?_, fun j e h1 => ?_⟩
        · rw [Array.getElem?_modify] at h1
          by_cases e1 : j' = j
          · subst e1
            rw [if_pos rfl, he0'] at h1
            simp at h1; subst h1
            rw [List.getElem?_set_self (by rw [← hsz]; exact (Array.getElem?_eq_some_iff.1 he0').1)] at h2
            simp at h2; obtain ⟨rfl, rfl⟩ := h2
            exact ⟨hk, hx⟩
          · rw [if_neg e1] at h1
            rw [List.getElem?_set_ne e1] at h2
            exact hen j e kk d h1 h2
        · have born : ∀ (i : Nat) e, (en.modify j' fun e => { e with key := uk, val := ux })[i]? = some e → ∃ e1, en[i]? = some e1 ∧ e1.born = e.born := by
            intro i e h
            rw [Array.getElem?_modify] at h
            split at h
            · simp only [Option.map_eq_some_iff] at h
              obtain ⟨e1, g1, rfl⟩ := h
              exact ⟨e1, g1, rfl⟩
            · exact ⟨e, h, rfl⟩
          obtain ⟨e1, g1, g2⟩ := born i e h1
          obtain ⟨e2, g3, g4⟩ := born j e' h2
          rw [← g2, ← g4]; exact hb1 i j e1 e2 g1 g3 hij
        · rw [Array.getElem?_modify] at h1
          split at h1
          · simp only [Option.map_eq_some_iff] at h1
            obtain ⟨e1, g1, rfl⟩ := h1
            exact hb2 j e1 g1
          · exact hb2 j e h1
      have h7 := turn_obj hrs (hsr.get _ _ hg) hrc hh rfl how hnew
      refine ⟨M, _, _, undef, .inr ⟨?_, rfl⟩, .refl M, h7, undef_ok M, h5, h6⟩
      simp [Instr.mapUpdate, ty.run_underlying, run_getObj_at hh rfl, hchk, hr1, he0', Instr.keyThatStays, hsame, run_setObj_at (C := C) hh rfl]

theorem mapdel_ok (hc : CfgOk C.P c) {t : TypeId} {kt e : Nat} (hkind : (c.ty t).kind = .map kt e) {q : KT} (hq : keyTy (c.ty kt) = some q) (hrs : RS C M g w) (hsr : SR g ℓ st) {m k : D} {um uk : Value} (hm : VD M m um) (hk : VD M k uk) {ts : Array TypeId} (ht : ts[0]? = some t) {ty0 : TypeId} {st' : St}
    (hs : mapdelSt q st m k = some st') : WOk C M g w ℓ st st' (do pure (.value (← Builtin.delete_ ts ty0 #[um, uk]))) undefD := by
  obtain ⟨it, td, ty⟩ := hc.of_kind (t := t) (by rw [hkind]; simp)
  have htd := ty.map hkind
  subst htd
  unfold mapdelSt at hs
  split at hs
  case h_2 => simp at hs
  rename_i r k
  split at hs
  case h_2 => simp at hs
  rename_i es hg
  split at hs
  case isFalse => simp at hs
  rename_i hok
  simp only [mapDel, Option.map_map, Option.map_eq_some_iff] at hs
  obtain ⟨o, ho, rfl⟩ := hs
  simp only [VD] at hm hk
  obtain ⟨p, hp, rfl⟩ := hm
  obtain ⟨p', hp', how, en, cl, hh, hsz, hen, hb1, hb2⟩ := hrs.blk _ _ (hsr.get _ _ hg)
  rw [hp] at hp'; cases hp'
  have hE : EnR M en.toList es := ⟨by simpa using hsz, fun j e k d h1 h2 => hen j e k d (by simpa using h1) h2⟩
  obtain ⟨rr, hr1, hr2⟩ := find_ok (w := w) hc hq hk hE ho
  have hchk := check_ok (w := w) hc hq hk hok (em := en.isEmpty)
  have hrc : ∀ l, r ≠ .ctr l := by intro l e; obtain ⟨_, _, _, e2⟩ := hrs.plv r p hp; rw [e2] at e; cases e
  have hlt : p.blk < w.heap.size := (Array.getElem?_eq_some_iff.1 hh).1
  cases o with
  | none =>
    have : rr = none := by cases rr <;> simp_all [FoundR]
    subst this
    obtain ⟨h5, h6⟩ := hsr.upd hg (.map es)
    have hnew : RB M r { w with heap := w.heap.setIfInBounds p.blk (.map en cl) } (.map es) := ⟨p, hp, how, en, cl, by rw [heap_set, if_pos rfl, if_pos hlt], hsz, hen, hb1, hb2⟩
    have h7 := turn_obj hrs (hsr.get _ _ hg) hrc hh rfl how hnew
    refine ⟨M, _, _, .tuple #[], .inl ?_, .refl M, h7, undef_ok M, h5, h6⟩
    simp [Builtin.delete_, ht, ty.run_underlying, run_getObj_at hh rfl, hchk, hr1, run_setObj_at (C := C) hh rfl]
  | some o =>
    obtain ⟨j, d0⟩ := o
    cases rr with
    | none => simp [FoundR] at hr2
    | some rr =>
      obtain ⟨j', v0⟩ := rr
      simp only [FoundR] at hr2
      obtain ⟨hj, _, e0, he0, _⟩ := hr2
      simp at hj; subst hj
      have he0' : en[j']? = some e0 := by simpa using he0
      have hjl : j' < en.size := (Array.getElem?_eq_some_iff.1 he0').1
      obtain ⟨h5, h6⟩ := hsr.upd hg (.map (es.eraseIdx j'))
      have her : ∀ (i : Nat), (en.eraseIdxIfInBounds j')[i]? = if i < j' then en[i]? else en[i + 1]? := by
        intro i
        have : (en.eraseIdxIfInBounds j').toList = en.toList.eraseIdx j' := by simp
        rw [← Array.getElem?_toList, this, List.getElem?_eraseIdx]
        split <;> simp
      have hnew : RB M r { w with heap := w.heap.setIfInBounds p.blk (.map (en.eraseIdxIfInBounds j') cl) } (.map (es.eraseIdx j')) := by
        refine ⟨p, hp, how, _, _, by rw [heap_set, if_pos rfl, if_pos hlt], ?_, fun j e kk d h1 h2 => ?_, fun i j e e' h1 h2 hij => ?_, fun j e h1 => ?_⟩
        · have e1 : (en.eraseIdxIfInBounds j').toList = en.toList.eraseIdx j' := by simp
          have e2 := congrArg List.length e1
          rw [List.length_eraseIdx_of_lt (by simpa using hjl)] at e2
          rw [List.length_eraseIdx_of_lt (by omega), ← hsz, ← Array.length_toList, e1, List.length_eraseIdx_of_lt (by simpa using hjl)]
          simp
        · rw [her] at h1
          rw [List.getElem?_eraseIdx] at h2
          split at h1
          · rename_i h; rw [if_pos h] at h2; exact hen j e kk d h1 h2
          · rename_i h; rw [if_neg h] at h2; exact hen (j + 1) e kk d h1 h2
        · rw [her] at h1 h2
          split at h1 <;> split at h2
          · exact hb1 i j e e' h1 h2 hij
          · exact hb1 i (j + 1) e e' h1 h2 (by omega)
          · omega
          · exact hb1 (i + 1) (j + 1) e e' h1 h2 (by omega)
        · rw [her] at h1
          split at h1
          · exact hb2 j e h1
          · exact hb2 (j + 1) e h1
      have h7 := turn_obj hrs (hsr.get _ _ hg) hrc hh rfl how hnew
      refine ⟨M, _, _, .tuple #[], .inl ?_, .refl M, h7, undef_ok M, h5, h6⟩
      simp [Builtin.delete_, ht, ty.run_underlying, run_getObj_at hh rfl, hchk, hr1, run_setObj_at (C := C) hh rfl]

end
end Go.Abs

/- The abstract layer, part 23: append onto a list, at the machine. No conditions. -/
namespace Go.Abs
open Go.RowKit

section
variable {C : Ctx} {c : Cfg} {M : Mem} {g : Ref → Option Blk} {w : World} {ℓ : Nat} {st : St}

theorem RS.drew (h : RS C M g w) (d : Nat) : RS C M g { w with drawn := d } :=
  ⟨h.known, h.own, fun r x hx => RB.keep (.refl M) (fun _ _ h => h) ⟨fun b a el hh => ⟨a, hh, rfl, fun _ _ => rfl⟩, fun b o _ hh _ => hh⟩ (fun _ _ _ h => h) x (h.blk r x hx), h.nf, h.plc, h.plv, h.glob, ⟨h.low.os, h.low.tape, h.low.output, h.low.size, h.low.block⟩, h.n0⟩

/-- The cells of a list's elements, read. -/
theorem read_list (hrs : RS C M g w) {k : Nat} (hk : k ≠ 0) {xs : List Dat} {b o : Nat} (hv : Vs M k xs b o) :
    ∃ ny : Array Value, EltA M k ny xs ∧ (∀ v ∈ ny.toList, flatV v) ∧ ∀ d m, m ≤ xs.length * k → (loadCells ⟨b, o, none⟩ m).run C.P { w with drawn := d } = .ok (ny.extract 0 m) { w with drawn := d } := by
  let ny : List Value := (List.range (xs.length * k)).map fun j => (M.known b (o + j)).getD undef
  have hcell : ∀ i j x, xs[i]? = some x → j < k → ∃ v u, V M x v ∧ v.cells.size = k ∧ (∀ c ∈ v.cells.toList, flatV c) ∧ v.cells[j]? = some u ∧ M.known b (o + (i * k + j)) = some u := by
    intro i j x hi hj
    obtain ⟨v, h1, h2, h3, h4⟩ := Vs_get hv i x hi
    have hj' : j < v.cells.size := by omega
    refine ⟨v, v.cells[j], h1, h2, h3, Array.getElem?_eq_getElem hj', ?_⟩
    have := h4 j hj
    rw [Array.getElem?_eq_getElem hj'] at this
    rw [← this]; congr 1; omega
  have hdiv : ∀ m, m < xs.length * k → m / k < xs.length ∧ m % k < k ∧ m = m / k * k + m % k := by
    intro m hm
    refine ⟨Nat.div_lt_of_lt_mul (by rw [Nat.mul_comm]; exact hm), Nat.mod_lt _ (by omega), ?_⟩
    rw [Nat.mul_comm]; exact (Nat.div_add_mod m k).symm
  have hget : ∀ m, m < xs.length * k → ∃ u, M.known b (o + m) = some u ∧ flatV u := by
    intro m hm
    obtain ⟨h1, h2, h3⟩ := hdiv m hm
    obtain ⟨v, u, g1, g2, g3, g4, g5⟩ := hcell (m / k) (m % k) _ (List.getElem?_eq_getElem h1) h2
    rw [← h3] at g5
    exact ⟨u, g5, g3 u (List.mem_of_getElem? (by simpa using g4))⟩
  refine ⟨ny.toArray, ⟨by simp [ny], fun i x hi => ?_⟩, fun v hv => ?_, fun d m hm => ?_⟩
  · obtain ⟨v, h1, h2, h3, h4⟩ := Vs_get hv i x hi
    refine ⟨v, h1, h2, h3, fun j hj => ?_⟩
    have hil : i < xs.length := by
      rcases Nat.lt_or_ge i xs.length with h | h
      · exact h
      · rw [List.getElem?_eq_none h] at hi; simp at hi
    have hlt : i * k + j < xs.length * k := by
      have := Nat.mul_le_mul_right k hil
      rw [Nat.succ_mul] at this; omega
    rw [← h4 j hj]
    have e : M.known b (o + i * k + j) = M.known b (o + (i * k + j)) := by congr 1; omega
    rw [e]
    obtain ⟨u, g1, _⟩ := hget _ hlt
    simp only [ny, List.getElem?_toArray, List.getElem?_map, List.getElem?_range hlt, Option.map_some, g1, Option.getD_some]
  · simp only [ny, List.mem_map, List.mem_range] at hv
    obtain ⟨m, hm, rfl⟩ := hv
    obtain ⟨u, g1, g2⟩ := hget m hm
    rw [g1]; exact g2
  · have hl : (ny.take m).length = m := by simp [ny]; omega
    have h := run_loadCells_list (P := C.P) (w := { w with drawn := d }) ⟨b, o, none⟩ (ny.take m) fun j v hj => by
      have hjl : j < m := by
        rcases Nat.lt_or_ge j (ny.take m).length with h | h
        · omega
        · rw [List.getElem?_eq_none h] at hj; simp at hj
      obtain ⟨u, g1, _⟩ := hget j (by omega)
      have hjl' : j < xs.length * k := by omega
      rw [List.getElem?_take, if_pos hjl] at hj
      simp only [ny, List.getElem?_map, List.getElem?_range hjl', Option.map_some, g1, Option.getD_some, Option.some.injEq] at hj
      subst hj
      rw [add_none]
      exact ((hrs.drew d).known _ _ _ g1).1
    rw [hl] at h
    rw [h]
    simp

theorem first_zero {P : Program} {k : Nat} {base : Option Addr} {cap : Nat} {w : World} : (Builtin.firstCells k 0 (.slice base 0 cap)).run P w = .ok #[] w := by
  cases base with
  | none => simp [Builtin.firstCells]
  | some a =>
    have := run_loadCells_list (P := P) (w := w) a [] (fun j v h => by simp at h)
    simpa [Builtin.firstCells] using this
/-- What append reads of a list. -/
theorem first_list (hrs : RS C M g w) {k : Nat} (hk : k ≠ 0) {xs : List Dat} (hs : strideOk k xs) {fl : Bool} {u : Value} (hu : V M (.list xs fl) u) :
    ∃ (ny : Array Value) (base : Option Addr) (cap : Nat), u = .slice base xs.length cap ∧ EltA M k ny xs ∧ (∀ v ∈ ny.toList, flatV v) ∧ ∀ d m, m ≤ xs.length → (Builtin.firstCells k m u).run C.P { w with drawn := d } = .ok (ny.extract 0 (m * k)) { w with drawn := d } := by
  simp only [V] at hu
  obtain ⟨base, len, cap, rfl, rfl, h1, h2, h3⟩ := hu
  rcases h3 with h3 | ⟨b, o, k', rfl, h4⟩
  · have : xs = [] := by cases xs with | nil => rfl | cons => simp at h1; omega
    subst this
    refine ⟨#[], base, cap, rfl, ⟨by simp, fun i x hi => by simp at hi⟩, by simp, fun d m hm => ?_⟩
    obtain rfl : m = 0 := by simpa using hm
    have e : ∀ q, (Builtin.firstCells k 0 (.slice base q cap)).run C.P { w with drawn := d } = (Builtin.firstCells k 0 (.slice base 0 cap)).run C.P { w with drawn := d } := fun q => by cases base <;> rfl
    rw [e, first_zero]; simp
  · obtain ⟨ny, g1, g2, g3⟩ := read_list hrs hk (Vs_stride h4 hs hk)
    exact ⟨ny, _, cap, rfl, g1, g2, fun d m hm => by simpa [Builtin.firstCells] using g3 d (m * k) (Nat.mul_le_mul_right k hm)⟩

theorem EltA.append {k : Nat} {a b : Array Value} {xs ys : List Dat} (h : EltA M k a xs) (h' : EltA M k b ys) (r : Array Value) (hr : ∀ j, j < (xs.length + ys.length) * k → r[j]? = (a ++ b)[j]?) :
    ∀ (i : Nat) x, (xs ++ ys)[i]? = some x → ∃ v, V M x v ∧ v.cells.size = k ∧ (∀ c ∈ v.cells.toList, flatV c) ∧ ∀ j, j < k → r[i * k + j]? = v.cells[j]? := by
  intro i x hi
  have hil : i < xs.length + ys.length := by
    rcases Nat.lt_or_ge i (xs ++ ys).length with h | h
    · simpa using h
    · rw [List.getElem?_eq_none h] at hi; simp at hi
  have hle : i * k + k ≤ (xs.length + ys.length) * k := by
    have := Nat.mul_le_mul_right k hil
    rw [Nat.succ_mul] at this; exact this
  rw [List.getElem?_append] at hi
  split at hi
  · rename_i hlt
    obtain ⟨v, h1, h2, h3, h4⟩ := h.2 i x hi
    refine ⟨v, h1, h2, h3, fun j hj => ?_⟩
    have : i * k + k ≤ xs.length * k := by
      have := Nat.mul_le_mul_right k hlt
      rw [Nat.succ_mul] at this; exact this
    rw [hr _ (by omega), Array.getElem?_append_left (by rw [h.1]; omega), h4 j hj]
  · rename_i hge
    obtain ⟨v, h1, h2, h3, h4⟩ := h'.2 _ x hi
    refine ⟨v, h1, h2, h3, fun j hj => ?_⟩
    have e : i * k = xs.length * k + (i - xs.length) * k := by rw [← Nat.add_mul]; congr 1; omega
    rw [hr _ (by omega), Array.getElem?_append_right (by rw [h.1]; omega), ← h4 j hj]
    congr 1; rw [h.1]; omega

theorem EltA.mono {M' : Mem} (hle : M.le M') {k : Nat} {a : Array Value} {xs : List Dat} (h : EltA M k a xs) : EltA M' k a xs :=
  ⟨h.1, fun i x hi => by obtain ⟨v, h1, h2, h3, h4⟩ := h.2 i x hi; exact ⟨v, V.mono hle _ _ h1, h2, h3, h4⟩⟩

/-- How the machine appends: in place, or into a new block. -/
theorem append_run (hc : CfgOk C.P c) {ts : Array TypeId} {t t2 : TypeId} {e e2 : Nat} (h0 : ts[0]? = some t) (h1 : ts[1]? = some t2) (hk : (c.ty t).kind = .slice e) (hk2 : (c.ty t2).kind = .slice e2) (hs : (c.ty e).size ≠ 0) (hby : (c.ty e).bytes ≤ 4096) (hz : (c.ty e).zero.cells.length = (c.ty e).size) {ty0 : TypeId}
    {base : Option Addr} {len cap n : Nat} {u : Value} (hlen : (Builtin.lenOf u).run C.P w = .ok n w) (hn : len + n ≤ mostLen) {old new : Array Value}
    (hnew : ∀ d, (Builtin.firstCells (c.ty e).size n u).run C.P { w with drawn := d } = .ok new { w with drawn := d }) (hold : ∀ d, (Builtin.firstCells (c.ty e).size len (.slice base len cap)).run C.P { w with drawn := d } = .ok old { w with drawn := d }) :
    (len + n ≤ cap → (Builtin.append_ ts ty0 #[.slice base len cap, u]).run C.P w = ((match base with | some a => storeCells (a.add (len * (c.ty e).size)) new.toList | none => pure ()).run C.P w).andThen fun _ w' => .ok (.slice base (len + n) cap) w') ∧
    (cap < len + n → ∃ nc z, len + n ≤ nc ∧ (Builtin.append_ ts ty0 #[.slice base len cap, u]).run C.P w = .ok (.slice (some ⟨w.heap.size, 0, none⟩) (len + n) nc) (({ w with drawn := w.drawn + 1 } : World).alloc (.cells (old ++ new ++ Builtin.zeroCells z (nc - (len + n))) e)) ∧ z.size = (c.ty e).size) := by
  obtain ⟨it, td, ty⟩ := hc.of_kind (t := t) (by rw [hk]; simp)
  have := ty.slice hk; subst this
  obtain ⟨it2, td2, ty2⟩ := hc.of_kind (t := t2) (by rw [hk2]; simp)
  have := ty2.slice hk2; subst this
  obtain ⟨ie, de, tye⟩ := hc.of_size hs
  have hzn : (c.ty e).zero.cells ≠ [] := by intro e'; rw [e'] at hz; simp at hz; omega
  have hne : (c.ty e).zero ≠ .any := by intro e'; rw [e'] at hzn; simp [Dat.cells] at hzn
  have hzz : ∀ w' : World, ∃ v, (zeroValue e).run C.P w' = .ok v w' ∧ ie.zero = some v ∧ V ⟨fun _ _ => none, fun _ => none, fun _ _ => none, 0, 0⟩ (c.ty e).zero v := fun w' => tye.run_zero (w := w') hne _
  have hnew0 : (Builtin.firstCells (c.ty e).size n u).run C.P w = .ok new w := hnew w.drawn
  unfold mostLen at hn
  obtain ⟨rest, rfl⟩ : ∃ rest, ts = ⟨t :: t2 :: rest⟩ := by
    obtain ⟨l⟩ := ts
    match l, h0, h1 with
    | a :: b :: rest, h0, h1 => simp at h0 h1; subst h0 h1; exact ⟨rest, rfl⟩
    | [a], h0, h1 => simp at h1
    | [], h0, h1 => simp at h0
  constructor
  · intro hle
    simp [Builtin.append_, ty.run_underlying, ty2.run_underlying, tye.run_sizeOf, hlen, hle, hnew0]
    cases base <;> simp
  · intro hgt
    have hn' : ¬ (len + n ≤ cap) := by omega
    have h63' : ¬ (9223372036854775807 < ((len : Int) + (n : Int))) := by omega
    have h48' : ¬ (281474976710656 < Builtin.nextslicecap (len + n) cap * ie.bytes) := by
      have h2 := growslice_fits (need := len + n) (old := cap) (bytes := ie.bytes) hgt (by
        have : ie.bytes ≤ 4096 := by rw [← tye.bytes]; exact hby
        have := Nat.mul_le_mul hn this
        omega)
      omega
    have hnewD := hnew (w.drawn + 1)
    have holdD := hold (w.drawn + 1)
    obtain ⟨zv, hz1, _, hz2⟩ := hzz { w with drawn := w.drawn + 1 }
    obtain ⟨hz3, _⟩ := V_cells hz2 hzn
    refine ⟨Question.cut (.appendCap (len + n) cap e) (w.tape w.drawn (.appendCap (len + n) cap e)), zv.cells, by simp [Question.cut], ?_, by omega⟩
    simp [Builtin.append_, ty.run_underlying, ty2.run_underlying, tye.run_sizeOf, tye.run_typeInfo, hlen, hn', h63', h48', Question.forced, newRow]
    simp at hnewD holdD hz1
    simp [hnewD, holdD, hz1]

/-- One list more, and the right to append to it; the right to append to an older one is gone. -/
theorem RS.app (h : RS C M g w) {n s : Nat} (hc : g (.ctr ℓ) = some (.ctr n)) {r : Ref} (hr : ∀ l, r ≠ .ctr l) {M' : Mem} {w' : World} {p : Place} {x : Blk} (hle : M.le M') (hpl : ∀ q, M'.place q = if q = .v ℓ s n then some p else M.place q)
    (hown : ∀ b o q, q ≠ r → M.owner b o = some q → M'.owner b o = some q) (hown' : ∀ b o q, M'.owner b o = some q → b < w'.heap.size ∧ C.n0 ≤ b)
    (hknown : ∀ b o v, M'.known b o = some v → w'.cell? ⟨b, o, none⟩ = some v ∧ M'.owner b o = none) (hkeep : ∀ q, q ≠ r → Keeps M q w w') (hRB : RB M' (.v ℓ s n) w' x) (hlow : Below C.n0 C.w0 w') (hsz : w.heap.size ≤ w'.heap.size) (hnf : M'.nf = M.nf ∧ M'.hs = M.hs) :
    RS C M' (gset (gset (gdel g r) (.ctr ℓ) (.ctr (n + 1))) (.v ℓ s n) x) w' := by
  have hlt : ℓ < M.nf := by
    rcases Nat.lt_or_ge ℓ M.nf with h1 | h1
    · exact h1
    · rw [(h.nf ℓ h1).1] at hc; simp at hc
  refine ⟨hknown, hown', fun q x hq => ?_, fun l hl => ?_, fun q x hq hv => ?_, fun q x hq => ?_, fun n => V.mono hle _ _ (h.glob n), hlow, by have := h.n0; omega⟩
  · by_cases e : q = .v ℓ s n
    · subst e; simp only [gset_same, Option.some.injEq] at hq; subst hq; exact hRB
    · rw [gset_other _ _ e] at hq
      by_cases e2 : q = .ctr ℓ
      · subst e2
        simp only [gset_same, Option.some.injEq] at hq; subst hq
        obtain ⟨l, e3, hl⟩ := h.blk _ _ hc
        cases e3
        refine ⟨ℓ, rfl, fun s' i hi => ?_⟩
        rw [hpl, if_neg (by intro e; cases e; omega)]
        exact hl s' i (by omega)
      · rw [gset_other _ _ e2] at hq
        by_cases e3 : q = r
        · subst e3; simp at hq
        · rw [gdel_other _ e3] at hq
          refine RB.keep hle (fun b o hq => hown b o q e3 hq) (hkeep q e3) (fun l n' e4 hx s' i hi => ?_) x (h.blk q x hq)
          rw [hpl, if_neg]
          · exact hx s' i hi
          · intro e5; cases e5; exact e2 e4
  · rw [hnf.1] at hl
    obtain ⟨h1, h2⟩ := h.nf l hl
    refine ⟨?_, fun s' i => ?_⟩
    · rw [gset_other _ _ (by simp), gset_other _ _ (by intro e; cases e; omega), gdel_other _ (hr l).symm]
      exact h1
    · rw [hpl, if_neg (by intro e; cases e; omega)]
      exact h2 s' i
  · rw [hpl]
    by_cases e : q = .v ℓ s n
    · subst e; simp
    · rw [if_neg e]
      rw [gset_other _ _ e] at hq
      obtain ⟨l, s', i, e2⟩ := hv
      subst e2
      rw [gset_other _ _ (by simp)] at hq
      by_cases e3 : Ref.v l s' i = r
      · subst e3; simp at hq
      · rw [gdel_other _ e3] at hq
        exact h.plc _ x hq ⟨l, s', i, rfl⟩
  · rw [hpl] at hq
    split at hq
    · rename_i e; exact ⟨_, _, _, e⟩
    · exact h.plv q x hq

/-- Cells that become known, with room behind them. -/
def Mem.grow (M : Mem) (r : Ref) (k b lo hi : Nat) (vals : Array Value) : Mem :=
  { M with
    known := fun c o => if c = b ∧ lo ≤ o ∧ o < lo + vals.size then vals[o - lo]? else M.known c o
    place := fun q => if q = r then some ⟨b, lo + vals.size, hi, k⟩ else M.place q
    owner := fun c o => if c = b ∧ lo ≤ o ∧ o < hi then (if o < lo + vals.size then none else some r) else M.owner c o }

theorem grow_app (hrs : RS C M g w) {n s : Nat} (hc : g (.ctr ℓ) = some (.ctr n)) {r : Ref} (hr : ∀ l, r ≠ .ctr l) {b lo hi k : Nat} {vals : Array Value} {w' : World}
    (hfit : lo + vals.size ≤ hi) (hreg : ∀ o, lo ≤ o → o < hi → M.known b o = none) (hown : ∀ o q, lo ≤ o → o < hi → M.owner b o = some q → q = r) (hb : lo < hi → b < w'.heap.size ∧ C.n0 ≤ b)
    (hcell : ∀ (j : Nat) v, vals[j]? = some v → w'.cell? ⟨b, lo + j, none⟩ = some v) (hknown : ∀ c o v, M.known c o = some v → w'.cell? ⟨c, o, none⟩ = some v) (hkeep : ∀ q, q ≠ r → Keeps M q w w')
    (hblk : lo + vals.size < hi → ∃ a el, w'.heap[b]? = some (.cells a el (0, 0)) ∧ hi ≤ a.size) (hlow : Below C.n0 C.w0 w') (hsz : w.heap.size ≤ w'.heap.size) :
    M.le (M.grow (.v ℓ s n) k b lo hi vals) ∧ RS C (M.grow (.v ℓ s n) k b lo hi vals) (gset (gset (gdel g r) (.ctr ℓ) (.ctr (n + 1))) (.v ℓ s n) (.tok k)) w' := by
  have hpl : M.place (.v ℓ s n) = none := by
    obtain ⟨l, e, hl⟩ := hrs.blk _ _ hc
    cases e
    exact hl s n (Nat.le_refl _)
  have hle : M.le (M.grow (.v ℓ s n) k b lo hi vals) := by
    refine ⟨fun c o v hk => ?_, fun q x hq => ?_, Nat.le_refl _, Nat.le_refl _⟩
    · simp only [Mem.grow]
      rw [if_neg]
      · exact hk
      · rintro ⟨rfl, h1, h2⟩
        rw [hreg o h1 (by omega)] at hk; simp at hk
    · simp only [Mem.grow]; split
      · rename_i e; subst e; rw [hpl] at hq; simp at hq
      · exact hq
  refine ⟨hle, hrs.app hc hr (p := ⟨b, lo + vals.size, hi, k⟩) hle (fun q => rfl) (fun c o q hq ho => ?_) (fun c o q ho => ?_) (fun c o v hk => ?_) hkeep ?_ hlow hsz ⟨rfl, rfl⟩⟩
  · simp only [Mem.grow]
    rw [if_neg]
    · exact ho
    · rintro ⟨rfl, h1, h2⟩; exact hq (hown o q h1 h2 ho)
  · simp only [Mem.grow] at ho
    split at ho
    · rename_i h; obtain ⟨rfl, h1, h2⟩ := h; exact hb (by omega)
    · have := hrs.own c o q ho; omega
  · simp only [Mem.grow] at hk ⊢
    split at hk
    · rename_i h; obtain ⟨rfl, h1, h2⟩ := h
      have := hcell _ _ hk
      rw [show lo + (o - lo) = o by omega] at this
      refine ⟨this, ?_⟩
      rw [if_pos ⟨by first | trivial | rfl, h1, by omega⟩, if_pos h2]
    · rename_i h
      refine ⟨hknown c o v hk, ?_⟩
      rw [if_neg]
      · exact (hrs.known c o v hk).2
      · rintro ⟨rfl, h1, h2⟩
        rw [hreg o h1 h2] at hk; simp at hk
  · refine ⟨⟨b, lo + vals.size, hi, k⟩, by simp [Mem.grow], rfl, fun hlt => ?_⟩
    obtain ⟨a, el, h1, h2⟩ := hblk hlt
    refine ⟨a, el, h1, h2, fun j h3 h4 => ?_⟩
    simp only [Mem.grow] at h3 h4 ⊢
    rw [if_pos ⟨by first | trivial | rfl, by omega, by omega⟩, if_neg (by omega)]

theorem grow_known {r : Ref} {k b lo hi : Nat} {vals : Array Value} {j : Nat} (h : j < vals.size) : (M.grow r k b lo hi vals).known b (lo + j) = vals[j]? := by
  simp only [Mem.grow]
  rw [if_pos ⟨trivial, by omega, by omega⟩]; congr 1; omega

/-- The frame's own list behind an append. -/
theorem app_sr (hrs : RS C M g w) (hsr : SR g ℓ st) {st' : St} {d k : Nat} {r : Ref} (hst : SR (gdel g r) ℓ st' ∧ Moved g (gdel g r) ℓ st st') :
    SR (gset (gset (gdel g r) (.ctr ℓ) (.ctr (st'.next + 1))) (.v ℓ d st'.next) (.tok k)) ℓ (st'.new ℓ d (.tok k)) ∧ Moved g (gset (gset (gdel g r) (.ctr ℓ) (.ctr (st'.next + 1))) (.v ℓ d st'.next) (.tok k)) ℓ st (st'.new ℓ d (.tok k)) := by
  obtain ⟨h1, h2⟩ := hst.1.new (hrs.drop r) d (.tok k)
  exact ⟨h1, hst.2.trans h2 h1.noctr⟩

/-- What comes of an append onto a list. -/
theorem app_core (hrs : RS C M g w) (hsr : SR g ℓ st) {st' : St} {d k : Nat} (hk : k ≠ 0) {r : Ref} (hr : ∀ l, r ≠ .ctr l) (hst : SR (gdel g r) ℓ st' ∧ Moved g (gdel g r) ℓ st st') (hnext : st'.next = st.next)
    {xs ys : List Dat} {base : Option Addr} {cap : Nat} (hcap : xs.length ≤ cap) {old new : Array Value} (hold : EltA M k old xs) (hnew : EltA M k new ys) (hnewf : ∀ v ∈ new.toList, flatV v)
    (hlay : (cap = xs.length ∧ (cap = 0 ∨ ∃ b o, base = some ⟨b, o, none⟩ ∧ Vs M k xs b o)) ∨
      ∃ p o, M.place r = some p ∧ p.k = k ∧ (p.off < p.lim → ∃ a el, w.heap[p.blk]? = some (.cells a el (0, 0)) ∧ p.lim ≤ a.size ∧ ∀ j, p.off ≤ j → j < p.lim → M.owner p.blk j = some r) ∧ base = some ⟨p.blk, o, none⟩ ∧ p.off = o + xs.length * k ∧ p.lim = o + cap * k ∧ Vs M k xs p.blk o)
    {s : Sem Value}
    (hin : xs.length + ys.length ≤ cap → s.run C.P w = ((match base with | some a => storeCells (a.add (xs.length * k)) new.toList | none => pure ()).run C.P w).andThen fun _ w' => .ok (.slice base (xs.length + ys.length) cap) w')
    (hout : cap < xs.length + ys.length → ∃ nc z e, xs.length + ys.length ≤ nc ∧ s.run C.P w = .ok (.slice (some ⟨w.heap.size, 0, none⟩) (xs.length + ys.length) nc) (({ w with drawn := w.drawn + 1 } : World).alloc (.cells (old ++ new ++ Builtin.zeroCells z (nc - (xs.length + ys.length))) e)) ∧ z.size = k) :
    WOk C M g w ℓ st (st'.new ℓ d (.tok k)) (do pure (.value (← s))) (.lst (xs ++ ys) (.v ℓ d st.next)) := by
  obtain ⟨hs1, hs2⟩ := app_sr (d := d) (k := k) hrs hsr hst
  rw [hnext] at hs1 hs2
  rcases Nat.lt_or_ge cap (xs.length + ys.length) with hgt | hle
  · -- a new block
    obtain ⟨nc, z, e, hnc, hrun, hz⟩ := hout hgt
    have hmul : (xs.length + ys.length) * k ≤ nc * k := Nat.mul_le_mul_right k hnc
    have hvs : (old ++ new).size = (xs.length + ys.length) * k := by rw [Array.size_append, hold.1, hnew.1, Nat.add_mul]
    have hzs : (Builtin.zeroCells z (nc - (xs.length + ys.length))).size = nc * k - (xs.length + ys.length) * k := by
      rw [← Nat.sub_mul, ← hz]
      simp [Builtin.zeroCells, Nat.mul_comm]
    obtain ⟨g1, g2⟩ := grow_app (s := d) (k := k) hrs hsr.ctr hr (b := w.heap.size) (lo := 0) (hi := nc * k) (vals := old ++ new) (w' := ({ w with drawn := w.drawn + 1 } : World).alloc (.cells (old ++ new ++ Builtin.zeroCells z (nc - (xs.length + ys.length))) e))
      (by omega) (fun o _ _ => by
        cases e : M.known w.heap.size o with
        | none => rfl
        | some v => have := hrs.lt e; omega) (fun o q _ _ ho => by have := (hrs.own _ _ _ ho).1; omega) (fun _ => by rw [World.size_alloc]; exact ⟨Nat.lt_succ_self _, hrs.n0.1⟩)
      (fun j v hj => by
        have hj' : j < (old ++ new).size := by
          rcases Nat.lt_or_ge j (old ++ new).size with h | h
          · exact h
          · rw [Array.getElem?_eq_none h] at hj; simp at hj
        rw [Nat.zero_add, World.cell?_alloc_new (w := { w with drawn := w.drawn + 1 }), Array.getElem?_append_left hj']; exact hj)
      (fun c o v hk => by
        rw [World.cell?_alloc_lt (w := { w with drawn := w.drawn + 1 }) (a := ⟨c, o, none⟩) (h := hrs.lt hk)]; exact (hrs.known c o v hk).1)
      (fun q _ => ⟨(Keeps.alloc M q { w with drawn := w.drawn + 1 } _).cells, (Keeps.alloc M q { w with drawn := w.drawn + 1 } _).objs⟩)
      (fun _ => ⟨_, _, World.alloc_heap_new { w with drawn := w.drawn + 1 } _, by rw [Array.size_append, hvs, hzs]; omega⟩)
      ((hrs.drew (w.drawn + 1)).low.alloc hrs.n0.1 _) (by rw [World.size_alloc]; exact Nat.le_succ _)
    refine ⟨_, _, _, .slice (some ⟨w.heap.size, 0, none⟩) (xs.length + ys.length) nc, .inl (by simp [hrun]), g1, g2, ?_, hs1, hs2⟩
    simp only [VD]
    refine ⟨⟨w.heap.size, 0 + (old ++ new).size, nc * k, k⟩, _, _, _, rfl, by simp, by simpa using hnc, by simp [Mem.grow], .inr ⟨0, rfl, by simp only [hvs, Nat.zero_add], by simp only [Nat.zero_add], Vs_of fun i x hi => ?_⟩⟩
    obtain ⟨v, h1, h2, h3, h4⟩ := EltA.append hold hnew (old ++ new) (fun _ _ => rfl) i x hi
    have hil : i < xs.length + ys.length := by
      rcases Nat.lt_or_ge i (xs ++ ys).length with h | h
      · simpa using h
      · rw [List.getElem?_eq_none h] at hi; simp at hi
    have : i * k + k ≤ (xs.length + ys.length) * k := by
      have := Nat.mul_le_mul_right k hil
      rw [Nat.succ_mul] at this; exact this
    refine ⟨v, V.mono g1 _ _ h1, h2, h3, fun j hj => ?_⟩
    rw [← h4 j hj, Nat.add_assoc]
    have hjj : i * k + j < (old ++ new).size := by rw [hvs]; exact Nat.lt_of_lt_of_le (Nat.add_lt_add_left hj _) this
    exact grow_known hjj
  · rcases hlay with ⟨hcl, hb⟩ | ⟨p, o, hp, hpk, hrow, hbase, hoff, hlim, hvs⟩
    · -- nothing onto a full list
      have hy : ys = [] := by
        cases ys with
        | nil => rfl
        | cons a l => simp at hle; omega
      subst hy
      have hn0 : new = #[] := by
        have := hnew.1
        simpa using this
      subst hn0
      obtain ⟨g1, g2⟩ := grow_app (s := d) (k := k) hrs hsr.ctr hr (b := 0) (lo := 0) (hi := 0) (vals := #[]) (w' := w) (by simp) (fun o h1 h2 => by omega) (fun o q h1 h2 => by omega) (fun h => by omega) (fun j v hj => by simp at hj)
        (fun c o v hk => (hrs.known c o v hk).1) (fun q _ => .refl M q w) (fun h => by simp at h) hrs.low (Nat.le_refl _)
      refine ⟨_, _, _, .slice base xs.length cap, .inl ?_, g1, g2, ?_, hs1, hs2⟩
      · have := hin hle
        cases base <;> simp [this, storeCells]
      · simp only [VD, List.append_nil]
        refine ⟨⟨0, 0 + 0, 0, k⟩, _, _, _, rfl, rfl, by omega, by simp [Mem.grow], .inl ⟨hcl, ?_⟩⟩
        rcases hb with hb | ⟨b, o, h1, h2⟩
        · exact .inl hb
        · exact .inr ⟨b, o, h1, Vs.mono g1 _ _ _ _ h2⟩
    · -- in place
      subst hbase
      have hnk : (xs.length + ys.length) * k ≤ cap * k := Nat.mul_le_mul_right k hle
      rw [Nat.add_mul] at hnk
      have hns : new.size = ys.length * k := hnew.1
      -- the world behind it
      obtain ⟨w', hst', hw1, hw2, hw3, hw4, hw5, hw6, hw7⟩ : ∃ w', (storeCells (Addr.add ⟨p.blk, o, none⟩ (xs.length * k)) new.toList).run C.P w = .ok () w' ∧ (p.off < p.lim → p.blk < w'.heap.size ∧ C.n0 ≤ p.blk) ∧
          (∀ (j : Nat) v, new[j]? = some v → w'.cell? ⟨p.blk, p.off + j, none⟩ = some v) ∧ (∀ c o v, M.known c o = some v → w'.cell? ⟨c, o, none⟩ = some v) ∧ (∀ q, q ≠ r → Keeps M q w w') ∧
          (p.off + new.size < p.lim → ∃ a el, w'.heap[p.blk]? = some (.cells a el (0, 0)) ∧ p.lim ≤ a.size) ∧ Below C.n0 C.w0 w' ∧ w.heap.size ≤ w'.heap.size := by
        rcases Nat.lt_or_ge p.off p.lim with hlt | hge
        · obtain ⟨a, el, h1, h2, h3⟩ := hrow hlt
          have hn0 : C.n0 ≤ p.blk := (hrs.own _ _ _ (h3 p.off (Nat.le_refl _) hlt)).2
          have hbl : p.blk < w.heap.size := (Array.getElem?_eq_some_iff.1 h1).1
          have hsr := store_run (C := C) (w := w) h1 (o := p.off) (vs := new.toList) (by simp; omega) hnewf
          have hinr : ∀ j, (layV a p.off new.toList)[j]? ≠ a[j]? → M.owner p.blk j = some r := by
            intro j hj
            rw [layV_get] at hj
            by_cases h : p.off ≤ j ∧ j < p.off + new.toList.length ∧ j < a.size
            · refine h3 j h.1 ?_
              have := h.2.1; simp at this; omega
            · rw [if_neg h] at hj; exact (hj rfl).elim
          refine ⟨w.setRow p.blk (layV a p.off new.toList), ?_, fun _ => ⟨by simpa using hbl, hn0⟩, fun j v hj => ?_, fun c o v hk => ?_, fun q hq => ⟨fun c a' el' hh => ?_, fun c ob _ hh ho => ?_⟩, fun _ => ⟨_, el, setRow_at h1, by rw [layV_size]; exact h2⟩, ?_, by simp⟩
          · rw [add_none, ← hoff]; exact hsr
          · have hjl : j < new.size := by
              rcases Nat.lt_or_ge j new.size with h | h
              · exact h
              · rw [Array.getElem?_eq_none h] at hj; simp at hj
            have hlay : (layV a p.off new.toList)[p.off + j]? = some v := by
              rw [layV_get, if_pos (And.intro (by omega) (And.intro (by simp; omega) (by omega)))]
              simp [hj]
            simp only [World.cell?, setRow_at h1]
            simpa using hlay
          · obtain ⟨f1, f2⟩ := hrs.known c o v hk
            by_cases e : c = p.blk
            · subst e
              simp only [World.cell?, h1] at f1
              simp only [World.cell?, setRow_at h1]
              simp at f1 ⊢
              by_cases e : (layV a p.off new.toList)[o]? = a[o]?
              · rw [e]; exact f1
              · have := hinr o e; rw [f2] at this; simp at this
            · rw [World.cell?_of_block (w := w) (setRow_other w p.blk c _ e)]; exact f1
          · by_cases e : c = p.blk
            · subst e
              rw [h1] at hh
              cases hh
              refine ⟨_, setRow_at h1, layV_size _ _ _, fun j hj => ?_⟩
              by_cases e : (layV a p.off new.toList)[j]? = a[j]?
              · exact e
              · have := hinr j e; rw [hj] at this; cases this; exact (hq rfl).elim
            · exact ⟨a', by rw [setRow_other w p.blk c _ e]; exact hh, rfl, fun _ _ => rfl⟩
          · by_cases e : c = p.blk
            · subst e; rw [h1] at hh; cases hh; simp [Obj.isCells] at ho
            · rw [setRow_other w p.blk c _ e]; exact hh
          · exact hrs.low.trans ⟨rfl, rfl, rfl, by simp, fun k hk => setRow_other w p.blk k _ (by omega)⟩
        · have hn0 : new = #[] := by
            have : new.size = 0 := by omega
            simpa using this
          subst hn0
          exact ⟨w, by simp [storeCells], fun h => by omega, fun j v hj => by simp at hj, fun c o v hk => (hrs.known c o v hk).1, fun q _ => .refl M q w, fun h => by simp at h; omega, hrs.low, Nat.le_refl _⟩
      have hreg : ∀ j, p.off ≤ j → j < p.lim → M.owner p.blk j = some r := fun j h1 h2 => by
        obtain ⟨_, _, _, _, h3⟩ := hrow (by omega)
        exact h3 j h1 h2
      obtain ⟨g1, g2⟩ := grow_app (s := d) (k := k) hrs hsr.ctr hr (b := p.blk) (lo := p.off) (hi := p.lim) (vals := new) (w' := w') (by omega)
        (fun j h1 h2 => by
          cases e : M.known p.blk j with
          | none => rfl
          | some v => have := (hrs.known _ _ _ e).2; rw [hreg j h1 h2] at this; simp at this)
        (fun j q h1 h2 h3 => by rw [hreg j h1 h2] at h3; simpa using h3.symm) hw1 hw2 hw3 hw4 hw5 hw6 hw7
      refine ⟨_, _, _, .slice (some ⟨p.blk, o, none⟩) (xs.length + ys.length) cap, .inl ?_, g1, g2, ?_, hs1, hs2⟩
      · have := hin hle
        simp only at this
        rw [hst'] at this
        simp [this]
      · simp only [VD]
        refine ⟨⟨p.blk, p.off + new.size, p.lim, k⟩, _, _, _, rfl, by simp, hle, by simp [Mem.grow], .inr ⟨o, rfl, ?_, hlim, Vs_of fun i x hi => ?_⟩⟩
        · simp only [hns, Nat.add_mul]; omega
        · rw [List.getElem?_append] at hi
          split at hi
          · rename_i hlt
            obtain ⟨v, h1, h2, h3, h4⟩ := Vs_get (Vs.mono g1 _ _ _ _ hvs) i x hi
            exact ⟨v, h1, h2, h3, h4⟩
          · rename_i hge
            obtain ⟨v, h1, h2, h3, h4⟩ := hnew.2 _ x hi
            have hil : i - xs.length < ys.length := by
              rcases Nat.lt_or_ge (i - xs.length) ys.length with h | h
              · exact h
              · rw [List.getElem?_eq_none h] at hi; simp at hi
            have h5 : (i - xs.length) * k + k ≤ ys.length * k := by
              have := Nat.mul_le_mul_right k hil
              rw [Nat.succ_mul] at this; exact this
            refine ⟨v, V.mono g1 _ _ h1, h2, h3, fun j hj => ?_⟩
            rw [← h4 j hj]
            have e : o + i * k + j = p.off + ((i - xs.length) * k + j) := by
              have : i * k = xs.length * k + (i - xs.length) * k := by rw [← Nat.add_mul]; congr 1; omega
              rw [hoff, this]
              simp only [Nat.add_assoc]
            rw [e]
            have hjj : (i - xs.length) * k + j < new.size := by rw [hns]; exact Nat.lt_of_lt_of_le (Nat.add_lt_add_left hj _) h5
            exact grow_known hjj

end
end Go.Abs

/- The abstract layer, part 24: append, its operands, lists and arrays. No conditions. -/
namespace Go.Abs
open Go.RowKit

section
variable {C : Ctx} {c : Cfg} {M : Mem} {g : Ref → Option Blk} {w : World} {ℓ : Nat} {st : St}

/-- Cells of a row, read. -/
theorem read_row {b o m : Nat} {a : Array Value} {el : TypeId} (hh : w.heap[b]? = some (.cells a el (0, 0))) (hm : o + m ≤ a.size) :
    (loadCells ⟨b, o, none⟩ m).run C.P w = .ok (a.extract o (o + m)) w := by
  have hl : (a.extract o (o + m)).toList.length = m := by simp; omega
  have h := run_loadCells_list (P := C.P) (w := w) ⟨b, o, none⟩ (a.extract o (o + m)).toList (fun j v hj => by
    have hjm : j < m := by
      rcases Nat.lt_or_ge j m with h | h
      · exact h
      · rw [List.getElem?_eq_none (by omega)] at hj; simp at hj
    rw [Array.getElem?_toList, Array.getElem?_extract, if_pos (by omega)] at hj
    rw [add_none]
    simp only [World.cell?, hh]
    simpa using hj)
  rw [hl] at h
  rw [h]

theorem toElems_ok {gg : Bool} {k : Nat} (hg : gg = true ∨ k = 1) : ∀ (n : Nat) (cs : List D) (ys : List Dat) (a : Array Value) (o : Nat), toElems gg k n cs = some ys → n * k ≤ cs.length →
    (∀ (j : Nat) d, cs[j]? = some d → ∃ v, a[o + j]? = some v ∧ flatV v ∧ VD M d v) →
    ys.length = n ∧ ∀ (i : Nat) x, ys[i]? = some x → ∃ v, V M x v ∧ v.cells.size = k ∧ (∀ c ∈ v.cells.toList, flatV c) ∧ ∀ j, j < k → a[o + (i * k + j)]? = v.cells[j]?
  | 0, cs, ys, a, o, h, _, _ => by
    simp [toElems] at h; subst h
    exact ⟨rfl, fun i x hx => by simp at hx⟩
  | n + 1, cs, ys, a, o, h, hl, hcs => by
    simp only [toElems] at h
    split at h
    case h_2 => simp at h
    rename_i xs l hxs hrest
    simp at h; subst h
    rw [Nat.succ_mul] at hl
    have hxs' := dats_some _ _ hxs
    obtain ⟨h1, h2⟩ := toElems_ok hg n (cs.drop k) l a (o + k) hrest (by simp; omega) (fun j d hj => by
      rw [List.getElem?_drop] at hj
      have := hcs _ d hj
      rw [Nat.add_assoc]; exact this)
    have hxl : xs.length = k := by
      have := congrArg List.length hxs'
      simp at this; omega
    refine ⟨by simp [h1], fun i x hi => ?_⟩
    cases i with
    | succ i =>
      obtain ⟨v, g1, g2, g3, g4⟩ := h2 i x (by simpa using hi)
      refine ⟨v, g1, g2, g3, fun j hj => ?_⟩
      rw [← g4 j hj, Nat.succ_mul]
      congr 1; omega
    | zero =>
      simp at hi; subst hi
      have hcell : ∀ (j : Nat) y, xs[j]? = some y → ∃ v, a[o + j]? = some v ∧ flatV v ∧ V M y v := by
        intro j y hy
        have hjk : j < k := by
          rcases Nat.lt_or_ge j xs.length with h | h
          · omega
          · rw [List.getElem?_eq_none h] at hy; simp at hy
        have e1 : (cs.take k)[j]? = some (.dat y) := by rw [hxs']; simp [hy]
        rw [List.getElem?_take, if_pos hjk] at e1
        obtain ⟨v, f1, f2, f3⟩ := hcs j _ e1
        exact ⟨v, f1, f2, by simpa [VD] using f3⟩
      let vs : List Value := (List.range k).map fun j => (a[o + j]?).getD undef
      have hvsget : ∀ j, j < k → vs[j]? = a[o + j]? := by
        intro j hj
        obtain ⟨v, f1, _⟩ := hcell j _ (List.getElem?_eq_getElem (l := xs) (by omega))
        simp [vs, hj, f1]
      have hvsl : vs.length = k := by simp [vs]
      have hV : Vl M xs vs := by
        have := VDl_of (M := M) (ds := xs.map .dat) (vs := vs) (by simp [hxl, hvsl]) (fun j d v hd hv => by
          simp only [List.getElem?_map, Option.map_eq_some_iff] at hd
          obtain ⟨y, hy, rfl⟩ := hd
          have hjk : j < k := by
            rcases Nat.lt_or_ge j xs.length with h | h
            · omega
            · rw [List.getElem?_eq_none h] at hy; simp at hy
          obtain ⟨v', f1, f2, f3⟩ := hcell j y hy
          rw [hvsget j hjk, f1] at hv
          simp at hv; subst hv
          simpa [VD] using f3)
        exact (VDl_dat M xs vs).1 this
      have hfl : ∀ v ∈ vs, flatV v := by
        intro v hv
        obtain ⟨j, hj, e⟩ := List.getElem_of_mem hv
        have hjk : j < k := by omega
        obtain ⟨v', f1, f2, _⟩ := hcell j _ (List.getElem?_eq_getElem (l := xs) (by omega))
        have := hvsget j hjk
        rw [List.getElem?_eq_getElem hj, f1, e] at this
        simp at this; subst this; exact f2
      rcases hg with hg | hg
      · subst hg
        refine ⟨.agg vs.toArray, ?_, by simp [Value.cells, hvsl], by simpa [Value.cells] using hfl, fun j hj => ?_⟩
        · simp only [zeroElem, cond_true, V]
          exact ⟨vs.toArray, rfl, by simpa using hV, by simpa using hfl⟩
        · simp only [Value.cells, Nat.zero_mul, Nat.zero_add, List.getElem?_toArray]
          exact (hvsget j hj).symm
      · subst hg
        match xs, hxl with
        | [y], _ =>
          obtain ⟨v, f1, f2, f3⟩ := hcell 0 y rfl
          have hc : v.cells = #[v] := by cases v <;> simp_all [flatV, Value.cells]
          have hze : zeroElem gg [y] = .agg [y] ∨ zeroElem gg [y] = y := by cases gg <;> simp [zeroElem]
          rcases hze with hze | hze
          · rw [hze]
            refine ⟨.agg vs.toArray, ?_, by simp [Value.cells, hvsl], by simpa [Value.cells] using hfl, fun j hj => ?_⟩
            · simp only [V]
              exact ⟨vs.toArray, rfl, by simpa using hV, by simpa using hfl⟩
            · simp only [Value.cells, Nat.zero_mul, Nat.zero_add, List.getElem?_toArray]
              exact (hvsget j hj).symm
          · rw [hze]
            refine ⟨v, f3, by rw [hc]; rfl, by rw [hc]; simpa using f2, fun j hj => ?_⟩
            have : j = 0 := by omega
            subst this
            rw [hc]; simpa using f1

theorem appElems_ok (hrs : RS C M g w) {get : Ref → Option Blk} (hget : ∀ r b, get r = some b → g r = some b) {k : Nat} (hk : k ≠ 0) {y : D} {u : Value} (hy : VD M y u) {ys : List Dat} (h : appElems get k y = some ys) :
    ∃ new : Array Value, EltA M k new ys ∧ (∀ v ∈ new.toList, flatV v) ∧ (Builtin.lenOf u).run C.P w = .ok ys.length w ∧ ∀ d, (Builtin.firstCells k ys.length u).run C.P { w with drawn := d } = .ok new { w with drawn := d } := by
  unfold appElems at h
  split at h
  · split at h
    case isFalse => simp at h
    rename_i hs
    simp at h; subst h
    simp only [VD] at hy
    obtain ⟨ny, base, cap, rfl, h1, h2, h3⟩ := first_list hrs hk hs hy
    exact ⟨ny, h1, h2, by simp [Builtin.lenOf], fun d => by have := h3 d _ (Nat.le_refl _); rwa [← h1.1, Array.extract_size] at this⟩
  · split at h
    case isFalse => simp at h
    rename_i hs
    simp at h; subst h
    obtain ⟨ny, base, cap, rfl, h1, h2, h3⟩ := first_list hrs hk hs (lst_list hy)
    exact ⟨ny, h1, h2, by simp [Builtin.lenOf], fun d => by have := h3 d _ (Nat.le_refl _); rwa [← h1.1, Array.extract_size] at this⟩
  · split at h
    case h_2 => simp at h
    rename_i r off len _ k' gg cs hg
    split at h
    case isFalse => simp at h
    rename_i hcnd
    obtain ⟨rfl, hgg, hfit⟩ := hcnd
    simp only [VD] at hy
    obtain ⟨p, cap, rfl, hlc, hp, hlim⟩ := hy
    obtain ⟨p', hp', hpk, hfit', a, el, hh, hsz, hown, hcs⟩ := hrs.blk _ _ (hget _ _ hg)
    rw [hp] at hp'; cases hp'
    subst hpk
    have hmul : (off + len) * p.k = off * p.k + len * p.k := Nat.add_mul _ _ _
    obtain ⟨h1, h2⟩ := toElems_ok hgg len _ ys a (p.off + off * p.k) h (by simp; omega) (fun j d hj => by
      rw [List.getElem?_drop] at hj
      rw [Nat.add_assoc]; exact hcs _ d hj)
    refine ⟨a.extract (p.off + off * p.k) (p.off + off * p.k + len * p.k), ⟨by rw [h1]; simp; omega, fun i x hi => ?_⟩, fun v hv => ?_, by simp [Builtin.lenOf, h1], fun d => ?_⟩
    · obtain ⟨v, g1, g2, g3, g4⟩ := h2 i x hi
      have hil : i < len := by
        rcases Nat.lt_or_ge i ys.length with h | h
        · omega
        · rw [List.getElem?_eq_none h] at hi; simp at hi
      have h5 : i * p.k + p.k ≤ len * p.k := by
        have := Nat.mul_le_mul_right p.k hil
        rw [Nat.succ_mul] at this; exact this
      refine ⟨v, g1, g2, g3, fun j hj => ?_⟩
      rw [← g4 j hj, Array.getElem?_extract, if_pos]
      have : i * p.k + j < len * p.k := Nat.lt_of_lt_of_le (Nat.add_lt_add_left hj _) h5
      have hsz' : p.off + off * p.k + len * p.k ≤ a.size := by omega
      rw [Nat.min_eq_left hsz']; omega
    · obtain ⟨j, hj, e⟩ := List.getElem_of_mem hv
      have hjl : j < len * p.k := by simp at hj; omega
      have hjc : off * p.k + j < cs.length := by omega
      obtain ⟨v', f1, f2, _⟩ := hcs (off * p.k + j) _ (List.getElem?_eq_getElem hjc)
      have : (a.extract (p.off + off * p.k) (p.off + off * p.k + len * p.k))[j]? = some v := by
        rw [← Array.getElem?_toList, List.getElem?_eq_getElem hj, e]
      rw [Array.getElem?_extract, if_pos (by omega)] at this
      rw [Nat.add_assoc, f1] at this
      simp at this; subst this; exact f2
    · rw [h1]
      simp only [Builtin.firstCells]
      exact read_row (w := { w with drawn := d }) hh (by omega)
  · simp at h

theorem flat_get {k : Nat} : ∀ {ys : List Dat}, strideOk k ys → ∀ (m : Nat) x, ((ys.map Dat.cells).flatten)[m]? = some x → ∃ i j y, ys[i]? = some y ∧ j < k ∧ m = i * k + j ∧ y.cells[j]? = some x
  | [], _, m, x, h => by simp at h
  | y :: ys, hs, m, x, h => by
    have hy : y.cells.length = k := hs y (by simp)
    simp only [List.map_cons, List.flatten_cons, List.getElem?_append] at h
    split at h
    · exact ⟨0, m, y, rfl, by omega, by simp, h⟩
    · obtain ⟨i, j, z, h1, h2, h3, h4⟩ := flat_get (ys := ys) (fun z hz => hs z (by simp [hz])) _ x h
      exact ⟨i + 1, j, z, by simpa using h1, h2, by rw [Nat.succ_mul]; omega, h4⟩
theorem flat_length {k : Nat} : ∀ {ys : List Dat}, strideOk k ys → ((ys.map Dat.cells).flatten).length = ys.length * k
  | [], _ => by simp
  | y :: ys, hs => by
    have hy : y.cells.length = k := hs y (by simp)
    have := flat_length (ys := ys) (fun z hz => hs z (by simp [hz]))
    rw [List.map_cons, List.flatten_cons, List.length_append, this, hy, List.length_cons, Nat.succ_mul]; omega

theorem EltA.arr {k : Nat} (hk : k ≠ 0) {a : Array Value} {ys : List Dat} (h : EltA M k a ys) (hs : strideOk k ys) : ArrD M a (elemCells ys) := by
  refine ⟨by rw [h.1, elemCells, List.length_map, flat_length hs], fun m d hd => ?_⟩
  simp only [elemCells, List.getElem?_map, Option.map_eq_some_iff] at hd
  obtain ⟨x, hx, rfl⟩ := hd
  obtain ⟨i, j, y, h1, h2, rfl, h4⟩ := flat_get hs m x hx
  obtain ⟨v, g1, g2, g3, g4⟩ := h.2 i y h1
  have hy : y.cells.length = k := hs y (List.mem_of_getElem? h1)
  obtain ⟨f1, f2⟩ := V_cells g1 (by intro e; rw [e] at hy; simp at hy; omega)
  obtain ⟨u, e1, e2, e3⟩ := f2 j (.dat x) (by simp [h4])
  exact ⟨u, (g4 j h2).trans e1, e2, e3⟩

theorem appCells_ok (hrs : RS C M g w) {get : Ref → Option Blk} (hget : ∀ r b, get r = some b → g r = some b) {k : Nat} (hk : k ≠ 0) {y : D} {u : Value} (hy : VD M y u) {ys : List D} {n : Nat} (h : appCells get k y = some (ys, n)) :
    ys.length = n * k ∧ ∃ new : Array Value, ArrD M new ys ∧ (∀ v ∈ new.toList, flatV v) ∧ (Builtin.lenOf u).run C.P w = .ok n w ∧ (∀ d, (Builtin.firstCells k n u).run C.P { w with drawn := d } = .ok new { w with drawn := d }) ∧
      ∀ m, m ≤ n → (Builtin.firstCells k m u).run C.P w = .ok (new.extract 0 (m * k)) w := by
  unfold appCells at h
  -- lists: what is known stays so for a part
  have lst : ∀ (zs : List Dat) (fl : Bool), strideOk k zs → V M (.list zs fl) u → ∃ ny : Array Value, EltA M k ny zs ∧ (∀ v ∈ ny.toList, flatV v) ∧ (Builtin.lenOf u).run C.P w = .ok zs.length w ∧ (∀ d, (Builtin.firstCells k zs.length u).run C.P { w with drawn := d } = .ok ny { w with drawn := d }) ∧
      ∀ m, m ≤ zs.length → (Builtin.firstCells k m u).run C.P w = .ok (ny.extract 0 (m * k)) w := by
    intro zs fl hs hu
    obtain ⟨ny, base, cap, rfl, h1, h2, h3⟩ := first_list hrs hk hs hu
    exact ⟨ny, h1, h2, by simp [Builtin.lenOf], fun d => by have := h3 d _ (Nat.le_refl _); rwa [← h1.1, Array.extract_size] at this, fun m hm => h3 w.drawn m hm⟩
  split at h
  · split at h
    case isFalse => simp at h
    rename_i hs
    simp at h; obtain ⟨rfl, rfl⟩ := h
    simp only [VD] at hy
    obtain ⟨ny, h1, h2, h3, h4, h5⟩ := lst _ _ hs hy
    exact ⟨by rw [elemCells, List.length_map, flat_length hs], ny, h1.arr hk hs, h2, h3, h4, h5⟩
  · split at h
    case isFalse => simp at h
    rename_i hs
    simp at h; obtain ⟨rfl, rfl⟩ := h
    obtain ⟨ny, h1, h2, h3, h4, h5⟩ := lst _ _ hs (lst_list hy)
    exact ⟨by rw [elemCells, List.length_map, flat_length hs], ny, h1.arr hk hs, h2, h3, h4, h5⟩
  · split at h
    case h_2 => simp at h
    rename_i r off len _ k' gg cs hg
    split at h
    case isFalse => simp at h
    rename_i hcnd
    obtain ⟨rfl, hfit⟩ := hcnd
    simp at h; obtain ⟨rfl, rfl⟩ := h
    simp only [VD] at hy
    obtain ⟨p, cap, rfl, hlc, hp, hlim⟩ := hy
    obtain ⟨p', hp', hpk, hfit', a, el, hh, hsz, hown, hcs⟩ := hrs.blk _ _ (hget _ _ hg)
    rw [hp] at hp'; cases hp'
    subst hpk
    have hmul : (off + len) * p.k = off * p.k + len * p.k := Nat.add_mul _ _ _
    have hfit2 : p.off + off * p.k + len * p.k ≤ a.size := by omega
    have hcell : ∀ j, j < len * p.k → ∃ d v, cs[off * p.k + j]? = some d ∧ (a.extract (p.off + off * p.k) (p.off + off * p.k + len * p.k))[j]? = some v ∧ flatV v ∧ VD M d v := by
      intro j hj
      have hjc : off * p.k + j < cs.length := by omega
      obtain ⟨v, f1, f2, f3⟩ := hcs _ _ (List.getElem?_eq_getElem hjc)
      refine ⟨_, v, List.getElem?_eq_getElem hjc, ?_, f2, f3⟩
      rw [Array.getElem?_extract, if_pos (by omega), Nat.add_assoc]; exact f1
    refine ⟨by simp; omega, a.extract (p.off + off * p.k) (p.off + off * p.k + len * p.k), ⟨by simp; omega, fun j d hj => ?_⟩, fun v hv => ?_, by simp [Builtin.lenOf], fun d => ?_, fun m hm => ?_⟩
    · rw [List.getElem?_take] at hj
      split at hj
      case isFalse => simp at hj
      rename_i hjl
      rw [List.getElem?_drop] at hj
      obtain ⟨d', v, f1, f2, f3, f4⟩ := hcell j hjl
      rw [f1] at hj; simp at hj; subst hj
      exact ⟨v, f2, f3, f4⟩
    · obtain ⟨j, hj, e⟩ := List.getElem_of_mem hv
      have hjl : j < len * p.k := by simp at hj; omega
      obtain ⟨d', v', f1, f2, f3, f4⟩ := hcell j hjl
      have : (a.extract (p.off + off * p.k) (p.off + off * p.k + len * p.k))[j]? = some v := by
        rw [← Array.getElem?_toList, List.getElem?_eq_getElem hj, e]
      rw [f2] at this; simp at this; subst this; exact f3
    · simp only [Builtin.firstCells]
      exact read_row (w := { w with drawn := d }) hh (by omega)
    · simp only [Builtin.firstCells]
      have hmk : m * p.k ≤ len * p.k := Nat.mul_le_mul_right _ hm
      rw [read_row hh (by omega)]
      congr 1
      rw [Array.extract_extract]
      congr 1 <;> omega
  · simp at h

end
end Go.Abs

/- The abstract layer, part 25: append, at the machine. No conditions. -/
namespace Go.Abs
open Go.RowKit

section
variable {C : Ctx} {c : Cfg} {M : Mem} {g : Ref → Option Blk} {w : World} {ℓ : Nat} {st : St}

theorem first_of (hrs : RS C M g w) {k : Nat} (hk : k ≠ 0) {xs : List Dat} {base : Option Addr} {cap : Nat} (h : xs = [] ∨ ∃ b o, base = some ⟨b, o, none⟩ ∧ Vs M k xs b o) :
    ∃ old : Array Value, EltA M k old xs ∧ ∀ d, (Builtin.firstCells k xs.length (.slice base xs.length cap)).run C.P { w with drawn := d } = .ok old { w with drawn := d } := by
  rcases h with rfl | ⟨b, o, rfl, h⟩
  · exact ⟨#[], ⟨by simp, fun i x hi => by simp at hi⟩, fun d => first_zero⟩
  · obtain ⟨ny, h1, h2, h3⟩ := read_list hrs hk h
    exact ⟨ny, h1, fun d => by have := h3 d _ (Nat.le_refl _); rw [← h1.1, Array.extract_size] at this; rw [h1.1] at this; simpa [Builtin.firstCells] using this⟩

theorem append_list_ok (hc : CfgOk C.P c) (hrs : RS C M g w) (hsr : SR g ℓ st) {ts : Array TypeId} {t t2 : TypeId} {e e2 : Nat} (h0 : ts[0]? = some t) (h1 : ts[1]? = some t2) (hk : (c.ty t).kind = .slice e) (hk2 : (c.ty t2).kind = .slice e2) (hs : (c.ty e).size ≠ 0) (hby : (c.ty e).bytes ≤ 4096) (hz : (c.ty e).zero.cells.length = (c.ty e).size)
    {ty0 : TypeId} {d : Nat} {gg : Bool} {x y : D} {ux uy : Value} (hx : VD M x ux) (hy : VD M y uy) {dv : D} {st' : St} (hd : appendSt ℓ d st false (c.ty e).size gg x y = some (dv, st')) :
    WOk C M g w ℓ st st' (do pure (.value (← Builtin.append_ ts ty0 #[ux, uy]))) dv := by
  unfold appendSt at hd
  simp only [cond_false] at hd
  cases hys : appElems st.get (c.ty e).size y with
  | none => rw [hys] at hd; simp at hd
  | some ys =>
    rw [hys] at hd
    simp only [Option.bind_some] at hd
    obtain ⟨new, hnew, hnewf, hlen, hfirst⟩ := appElems_ok hrs hsr.get hs hy hys
    have fin : ∀ (r : Ref) (st2 : St) (xs : List Dat) (base : Option Addr) (cap : Nat), (∀ l, r ≠ .ctr l) → SR (gdel g r) ℓ st2 ∧ Moved g (gdel g r) ℓ st st2 → st2.next = st.next → ux = .slice base xs.length cap → xs.length ≤ cap → xs.length + ys.length ≤ mostLen →
        ((cap = xs.length ∧ (cap = 0 ∨ ∃ b o, base = some ⟨b, o, none⟩ ∧ Vs M (c.ty e).size xs b o)) ∨
          ∃ p o, M.place r = some p ∧ p.k = (c.ty e).size ∧ (p.off < p.lim → ∃ a el, w.heap[p.blk]? = some (.cells a el (0, 0)) ∧ p.lim ≤ a.size ∧ ∀ j, p.off ≤ j → j < p.lim → M.owner p.blk j = some r) ∧ base = some ⟨p.blk, o, none⟩ ∧ p.off = o + xs.length * (c.ty e).size ∧ p.lim = o + cap * (c.ty e).size ∧ Vs M (c.ty e).size xs p.blk o) →
        WOk C M g w ℓ st (st2.new ℓ d (.tok (c.ty e).size)) (do pure (.value (← Builtin.append_ ts ty0 #[ux, uy]))) (.lst (xs ++ ys) (.v ℓ d st.next)) := by
      intro r st2 xs base cap hr hst hnext hux hcap hmost hlay
      subst hux
      obtain ⟨old, hold, hfo⟩ := first_of (cap := cap) hrs hs (xs := xs) (base := base) (by
        rcases hlay with ⟨h1, h3 | h2⟩ | ⟨p, o, _, _, _, h2, _, _, h3⟩
        · exact .inl (List.eq_nil_of_length_eq_zero (by omega))
        · exact .inr h2
        · exact .inr ⟨_, _, h2, h3⟩)
      obtain ⟨g1, g2⟩ := append_run (C := C) hc h0 h1 hk hk2 hs hby hz (ty0 := ty0) (base := base) (len := xs.length) (cap := cap) hlen hmost hfirst hfo
      refine app_core hrs hsr hs hr hst hnext hcap hold hnew hnewf hlay g1 (fun hlt => ?_)
      obtain ⟨nc, z, f1, f2, f3⟩ := g2 hlt
      exact ⟨nc, z, e, f1, f2, f3⟩
    split at hd
    · -- a full list
      rename_i xs
      split at hd
      case isFalse => simp at hd
      rename_i hcnd
      simp at hd; obtain ⟨rfl, rfl⟩ := hd
      simp only [VD, V] at hx
      obtain ⟨base, len, cap, rfl, rfl, hcap, hfull, hb⟩ := hx
      have hfull := hfull trivial
      have hb' : cap = 0 ∨ ∃ b o, base = some ⟨b, o, none⟩ ∧ Vs M (c.ty e).size xs b o := by
        rcases hb with hb | ⟨b, o, k', h1, h2⟩
        · exact .inl hb
        · exact .inr ⟨b, o, h1, Vs_stride h2 hcnd.1 hs⟩
      have hg0 : gdel g (.v ℓ d st.next) = g := by
        funext q
        simp only [gdel]
        split
        · rename_i e; subst e; exact (fresh_none hrs hsr d).symm
        · rfl
      exact fin (.v ℓ d st.next) st xs base cap (fun l => by simp) (by rw [hg0]; exact ⟨hsr, Moved.refl g ℓ st⟩) rfl rfl hcap hcnd.2 (.inl ⟨hfull, hb'⟩)
    · rename_i xs r
      split at hd
      case h_2 => simp at hd
      rename_i _ k' hg
      split at hd
      case isFalse => simp at hd
      rename_i hcnd
      obtain ⟨rfl, hcnd⟩ := hcnd
      simp at hd; obtain ⟨rfl, rfl⟩ := hd
      simp only [VD] at hx
      obtain ⟨p, base, len, cap, rfl, rfl, hcap, hp, hb⟩ := hx
      obtain ⟨p', hp', hpk, hrow⟩ := hrs.blk _ _ (hsr.get _ _ hg)
      rw [hp] at hp'; cases hp'
      obtain ⟨l, s', i', hrv⟩ := hrs.plv r p hp
      refine fin r (st.del r) xs base cap (fun l => by rw [hrv]; simp) (hsr.del hg) (by unfold St.del; split <;> rfl) rfl hcap hcnd ?_
      rcases hb with ⟨h1, h2⟩ | ⟨o, h1, h2, h3, h4⟩
      · refine .inl ⟨h1, ?_⟩
        rw [← hpk]; exact h2
      · refine .inr ⟨p, o, hp, hpk, hrow, h1, ?_, ?_, ?_⟩ <;> rw [← hpk] <;> assumption
    · simp at hd

/-- A row written over: nobody else sees it. -/
theorem lay_world (hrs : RS C M g w) {r : Ref} {b o : Nat} {a : Array Value} {el : TypeId} (h1 : w.heap[b]? = some (.cells a el (0, 0))) {vs : List Value} (hl : o + vs.length ≤ a.size) (hf : ∀ v ∈ vs, flatV v) (hreg : ∀ j, o ≤ j → j < o + vs.length → M.owner b j = some r) (hn0 : C.n0 ≤ b) :
    (storeCells ⟨b, o, none⟩ vs).run C.P w = .ok () (w.setRow b (layV a o vs)) ∧ (∀ c o' v, M.known c o' = some v → (w.setRow b (layV a o vs)).cell? ⟨c, o', none⟩ = some v) ∧ (∀ q, q ≠ r → Keeps M q w (w.setRow b (layV a o vs))) ∧
      Below C.n0 C.w0 (w.setRow b (layV a o vs)) ∧ (w.setRow b (layV a o vs)).heap[b]? = some (.cells (layV a o vs) el (0, 0)) := by
  have hinr : ∀ j, (layV a o vs)[j]? ≠ a[j]? → M.owner b j = some r := by
    intro j hj
    rw [layV_get] at hj
    by_cases h : o ≤ j ∧ j < o + vs.length ∧ j < a.size
    · exact hreg j h.1 h.2.1
    · rw [if_neg h] at hj; exact (hj rfl).elim
  refine ⟨store_run h1 hl hf, fun c o' v hk => ?_, fun q hq => ⟨fun c a' el' hh => ?_, fun c ob _ hh ho => ?_⟩, hrs.low.trans ⟨rfl, rfl, rfl, by simp, fun k hk => setRow_other w b k _ (by omega)⟩, setRow_at h1⟩
  · obtain ⟨f1, f2⟩ := hrs.known c o' v hk
    by_cases e : c = b
    · subst e
      simp only [World.cell?, h1] at f1
      simp only [World.cell?, setRow_at h1]
      simp at f1 ⊢
      by_cases e : (layV a o vs)[o']? = a[o']?
      · rw [e]; exact f1
      · have := hinr o' e; rw [f2] at this; simp at this
    · rw [World.cell?_of_block (w := w) (setRow_other w b c _ e)]; exact f1
  · by_cases e : c = b
    · subst e
      rw [h1] at hh
      cases hh
      refine ⟨_, setRow_at h1, layV_size _ _ _, fun j hj => ?_⟩
      by_cases e : (layV a o vs)[j]? = a[j]?
      · exact e
      · have := hinr j e; rw [hj] at this; cases this; exact (hq rfl).elim
    · exact ⟨a', by rw [setRow_other w b c _ e]; exact hh, rfl, fun _ _ => rfl⟩
  · by_cases e : c = b
    · subst e; rw [h1] at hh; cases hh; simp [Obj.isCells] at ho
    · rw [setRow_other w b c _ e]; exact hh

theorem arr_append {a b : Array Value} {xs ys : List D} (h : ArrD M a xs) (k : ArrD M b ys) : ArrD M (a ++ b) (xs ++ ys) := by
  refine ⟨by rw [Array.size_append, List.length_append, h.1, k.1], fun j d hj => ?_⟩
  rw [List.getElem?_append] at hj
  split at hj
  · rename_i hlt
    obtain ⟨v, h1, h2, h3⟩ := h.2 j d hj
    exact ⟨v, by show (a ++ b)[j]? = _; rw [Array.getElem?_append_left (by rw [h.1]; omega)]; exact h1, h2, h3⟩
  · obtain ⟨v, h1, h2, h3⟩ := k.2 _ d hj
    exact ⟨v, by show (a ++ b)[j]? = _; rw [Array.getElem?_append_right (by rw [h.1]; omega), h.1]; exact h1, h2, h3⟩

theorem append_arr_ok (hc : CfgOk C.P c) (hrs : RS C M g w) (hsr : SR g ℓ st) {ts : Array TypeId} {t t2 : TypeId} {e e2 : Nat} (h0 : ts[0]? = some t) (h1 : ts[1]? = some t2) (hk : (c.ty t).kind = .slice e) (hk2 : (c.ty t2).kind = .slice e2) (hs : (c.ty e).size ≠ 0) (hby : (c.ty e).bytes ≤ 4096) (hz : (c.ty e).zero.cells.length = (c.ty e).size)
    {ty0 : TypeId} {d : Nat} {gg : Bool} {x y : D} {ux uy : Value} (hx : VD M x ux) (hy : VD M y uy) {dv : D} {st' : St} (hd : appendSt ℓ d st true (c.ty e).size gg x y = some (dv, st')) :
    WOk C M g w ℓ st st' (do pure (.value (← Builtin.append_ ts ty0 #[ux, uy]))) dv := by
  unfold appendSt at hd
  simp only [cond_true] at hd
  cases hys : appCells st.get (c.ty e).size y with
  | none => rw [hys] at hd; simp at hd
  | some yn =>
    obtain ⟨ys, n⟩ := yn
    rw [hys] at hd
    simp only [Option.bind_some] at hd
    obtain ⟨hyl, new, hnew, hnewf, hlen, hfirst, _⟩ := appCells_ok hrs hsr.get hs hy hys
    -- into a new block
    have fresh : ∀ (r : Ref) (st2 : St) (os : List D) (old : Array Value) (base : Option Addr) (len cap : Nat), (∀ l, r ≠ .ctr l) → SR (gdel g r) ℓ st2 ∧ Moved g (gdel g r) ℓ st st2 → st2.next = st.next → ux = .slice base len cap → len + n ≤ mostLen →
        ArrD M old os → os.length = len * (c.ty e).size → (∀ d, (Builtin.firstCells (c.ty e).size len (.slice base len cap)).run C.P { w with drawn := d } = .ok old { w with drawn := d }) → cap < len + n →
        WOk C M g w ℓ st (st2.new ℓ d (.arr (c.ty e).size gg (os ++ ys))) (do pure (.value (← Builtin.append_ ts ty0 #[ux, uy]))) (.arr (.v ℓ d st.next) 0 (len + n)) := by
      intro r st2 os old base len cap hr hst hnext hux hmost hold hosl hfo hgt
      subst hux
      obtain ⟨_, g2⟩ := append_run (C := C) hc h0 h1 hk hk2 hs hby hz (ty0 := ty0) (base := base) (len := len) (cap := cap) hlen hmost hfirst hfo
      obtain ⟨nc, z, hnc, hrun, hzk⟩ := g2 hgt
      have hctr : gdel g r (.ctr ℓ) = some (.ctr st2.next) := by rw [gdel_other _ (fun e => hr ℓ e.symm), hnext]; exact hsr.ctr
      have hrs2 : RS C M (gdel g r) { w with drawn := w.drawn + 1 } := (hrs.drop r).drew _
      have hpl : M.place (.v ℓ d st.next) = none := by
        obtain ⟨l, e, hl⟩ := hrs.blk _ _ hsr.ctr
        cases e
        exact hl d st.next (Nat.le_refl _)
      have hmul : (len + n) * (c.ty e).size ≤ nc * (c.ty e).size := Nat.mul_le_mul_right _ hnc
      have hvs : (old ++ new).size = (len + n) * (c.ty e).size := by rw [Array.size_append, hold.1, hnew.1, hosl, hyl, Nat.add_mul]
      have hzs : (Builtin.zeroCells z (nc - (len + n))).size = nc * (c.ty e).size - (len + n) * (c.ty e).size := by
        rw [← Nat.sub_mul, ← hzk]
        simp [Builtin.zeroCells, Nat.mul_comm]
      have hst2 := hst.1.new (hrs.drop r) d (.arr (c.ty e).size gg (os ++ ys))
      have hle := Mem.own_le (p := ⟨w.heap.size, 0, nc * (c.ty e).size, (c.ty e).size⟩) (b := w.heap.size) hpl
      obtain ⟨f1, f2⟩ := hrs2.new hctr (s := d) (.cells (old ++ new ++ Builtin.zeroCells z (nc - (len + n))) e) ⟨w.heap.size, 0, nc * (c.ty e).size, (c.ty e).size⟩ (.arr (c.ty e).size gg (os ++ ys)) (by
        refine ⟨_, own_place _ _ _ _, rfl, ?_, _, e, World.alloc_heap_new { w with drawn := w.drawn + 1 } _, ?_, fun j _ _ => own_owner _ _ _ _ _, fun j dd hj => ?_⟩
        · simp only [List.length_append, hosl, hyl, Nat.zero_add]; rw [← Nat.add_mul]; exact hmul
        · rw [Array.size_append, hvs, hzs]; simp only; omega
        · obtain ⟨v, e1, e2, e3⟩ := (arr_append hold hnew).2 j dd hj
          have e1 : (old ++ new)[j]? = some v := e1
          have hjl : j < (old ++ new).size := by
            rcases Nat.lt_or_ge j (old ++ new).size with h | h
            · exact h
            · rw [Array.getElem?_eq_none h] at e1; simp at e1
          rw [hnext]
          refine ⟨v, ?_, e2, VD.mono hle _ _ e3⟩
          simp only [Nat.zero_add]
          rw [Array.getElem?_append_left hjl]; exact e1)
      rw [hnext] at f1 f2
      rw [hnext] at hst2
      refine ⟨_, _, _, .slice (some ⟨w.heap.size, 0, none⟩) (len + n) nc, .inl (by simp [hrun]), f1, f2, ?_, hst2.1, hst.2.trans hst2.2 hst2.1.noctr⟩
      simp only [VD]
      exact ⟨_, nc, by simp, hnc, own_place _ _ _ _, by simp⟩
    split at hd
    · split at hd
      · -- nothing onto nothing
        rename_i hn
        subst hn
        simp at hd; obtain ⟨rfl, rfl⟩ := hd
        simp only [VD, V] at hx
        obtain ⟨base, len, cap, rfl, rfl, hcap, hfull, hb⟩ := hx
        have hfull := hfull trivial
        simp at hfull
        subst hfull
        obtain ⟨g1, _⟩ := append_run (C := C) hc h0 h1 hk hk2 hs hby hz (ty0 := ty0) (base := base) (len := 0) (cap := 0) (old := #[]) hlen (by simp) hfirst (fun d => first_zero)
        have g1 := g1 (by simp)
        have hn0 : new = #[] := by
          have := hnew.1
          rw [hyl] at this
          simpa using this
        subst hn0
        refine ⟨M, g, w, .slice base 0 0, .inl ?_, .refl M, hrs, ?_, hsr, Moved.refl g ℓ st⟩
        · clear hb hfirst hys hlen
          cases base <;> simp [g1, storeCells]
        · simp only [VD, V]
          exact ⟨base, 0, 0, rfl, rfl, by simp, by simp, hb⟩
      · split at hd
        case isFalse => simp at hd
        rename_i hn hmost
        simp at hd; obtain ⟨rfl, rfl⟩ := hd
        simp only [VD, V] at hx
        obtain ⟨base, len, cap, rfl, rfl, hcap, hfull, hb⟩ := hx
        have hfull := hfull trivial
        simp at hfull
        subst hfull
        have hg0 : gdel g (.v ℓ d st.next) = g := by
          funext q
          simp only [gdel]
          split
          · rename_i e; subst e; exact (fresh_none hrs hsr d).symm
          · rfl
        have := fresh (.v ℓ d st.next) st [] #[] base 0 0 (fun l => by simp) (by rw [hg0]; exact ⟨hsr, Moved.refl g ℓ st⟩) rfl rfl (by omega) ⟨by simp, fun j d hj => by simp at hj⟩ (by simp) (fun d => first_zero) (by omega)
        simpa using this
    · rename_i r off len
      split at hd
      case h_2 => simp at hd
      rename_i _ k' g0 cs hg
      split at hd
      case isFalse => simp at hd
      rename_i hcnd
      obtain ⟨rfl, hfit, hmost⟩ := hcnd
      simp at hd; obtain ⟨rfl, rfl⟩ := hd
      have hxs : appCells st.get (c.ty e).size (.arr r off len) = some ((cs.drop (off * (c.ty e).size)).take (len * (c.ty e).size), len) := by
        simp only [appCells, hg, true_and, if_pos hfit]
      obtain ⟨hosl, old, hold, holdf, _, hofirst, _⟩ := appCells_ok hrs hsr.get hs hx hxs
      have hx' := hx
      simp only [VD] at hx'
      obtain ⟨p, cap, rfl, hlc, hp, hlim⟩ := hx'
      obtain ⟨l, s', i', hrv⟩ := hrs.plv r p hp
      have hrc : ∀ l, r ≠ .ctr l := fun l => by rw [hrv]; simp
      have hnx : (st.del r).next = st.next := by unfold St.del; split <;> rfl
      rcases Nat.lt_or_ge cap (len + n) with hgt | hle
      · exact fresh r (st.del r) _ old _ len cap hrc (hsr.del hg) hnx rfl hmost hold hosl hofirst hgt
      · -- in place
        obtain ⟨p', hp', hpk, hfit', a, el, hh, hsz, hown, hcs⟩ := hrs.blk _ _ (hsr.get _ _ hg)
        rw [hp] at hp'; cases hp'
        rw [hpk] at hlim hx ⊢ hofirst
        obtain ⟨g1, _⟩ := append_run (C := C) hc h0 h1 hk hk2 hs hby hz (ty0 := ty0) (base := some ⟨p.blk, p.off + off * (c.ty e).size, none⟩) (len := len) (cap := cap) hlen hmost hfirst hofirst
        have g1 := g1 hle
        have hmul : (off + cap) * (c.ty e).size = off * (c.ty e).size + cap * (c.ty e).size := Nat.add_mul _ _ _
        have hmul2 : (len + n) * (c.ty e).size ≤ cap * (c.ty e).size := Nat.mul_le_mul_right _ hle
        rw [Nat.add_mul] at hmul2
        have hns : new.size = n * (c.ty e).size := by rw [hnew.1, hyl]
        obtain ⟨w', a', hrun, hkn, hkeep, hlow, hws, hh', ha's, ha'⟩ : ∃ w' a', (storeCells (Addr.add ⟨p.blk, p.off + off * (c.ty e).size, none⟩ (len * (c.ty e).size)) new.toList).run C.P w = .ok () w' ∧ (∀ c o' v, M.known c o' = some v → w'.cell? ⟨c, o', none⟩ = some v) ∧ (∀ q, q ≠ r → Keeps M q w w') ∧
            Below C.n0 C.w0 w' ∧ w.heap.size ≤ w'.heap.size ∧ w'.heap[p.blk]? = some (.cells a' el (0, 0)) ∧ a'.size = a.size ∧ ∀ j, a'[j]? = if p.off + off * (c.ty e).size + len * (c.ty e).size ≤ j ∧ j < p.off + off * (c.ty e).size + len * (c.ty e).size + new.size then new[j - (p.off + off * (c.ty e).size + len * (c.ty e).size)]? else a[j]? := by
          by_cases hn0 : new = #[]
          · subst hn0
            exact ⟨w, a, by simp [storeCells], fun c o v hk => (hrs.known c o v hk).1, fun q _ => .refl M q w, hrs.low, Nat.le_refl _, hh, rfl, fun j => by rw [if_neg (by simp)]⟩
          · have hnz : 0 < new.size := by
              rcases Nat.eq_zero_or_pos new.size with h | h
              · exact (hn0 (by simpa using h)).elim
              · exact h
            have hb0 := (hrs.own _ _ _ (hown (p.off + off * (c.ty e).size + len * (c.ty e).size) (by omega) (by omega))).2
            obtain ⟨f1, f2, f3, f4, f5⟩ := lay_world hrs (r := r) (o := p.off + off * (c.ty e).size + len * (c.ty e).size) hh (vs := new.toList) (by simp; omega) hnewf (fun j h1 h2 => hown j (by omega) (by simp at h2; omega)) hb0
            refine ⟨_, _, by rw [add_none]; exact f1, f2, f3, f4, by simp, f5, layV_size _ _ _, fun j => ?_⟩
            rw [layV_get]
            by_cases h : p.off + off * (c.ty e).size + len * (c.ty e).size ≤ j ∧ j < p.off + off * (c.ty e).size + len * (c.ty e).size + new.size
            · rw [if_pos h, if_pos ⟨h.1, by simpa using h.2, by omega⟩, Array.getElem?_toList]
            · rw [if_neg h, if_neg (fun h' => h ⟨h'.1, by simpa using h'.2.1⟩)]
        have hpl : M.place (.v ℓ d st.next) = none := by
          obtain ⟨l, e, hl⟩ := hrs.blk _ _ hsr.ctr
          cases e
          exact hl d st.next (Nat.le_refl _)
        have hrn : r ≠ .v ℓ d st.next := by intro e; rw [e, hpl] at hp; simp at hp
        let M' : Mem := { M with place := fun q => if q = .v ℓ d st.next then some ⟨p.blk, p.off + off * (c.ty e).size, p.lim, (c.ty e).size⟩ else M.place q, owner := fun c' o => if c' = p.blk ∧ p.off + off * (c.ty e).size ≤ o ∧ o < p.lim then some (.v ℓ d st.next) else M.owner c' o }
        have hle' : M.le M' := ⟨fun _ _ _ h => h, fun q x hq => by
          simp only [M']; split
          · rename_i e; subst e; rw [hpl] at hq; simp at hq
          · exact hq, Nat.le_refl _, Nat.le_refl _⟩
        have hrs' := hrs.app hsr.ctr hrc (s := d) (x := .arr (c.ty e).size gg (List.take (len * (c.ty e).size) (List.drop (off * (c.ty e).size) cs) ++ ys)) (M' := M') (w' := w') (p := ⟨p.blk, p.off + off * (c.ty e).size, p.lim, (c.ty e).size⟩) hle' (fun q => rfl) (fun c' o q hq ho => by
            simp only [M']
            rw [if_neg]
            · exact ho
            · rintro ⟨rfl, h1, h2⟩
              rw [hown o (by omega) h2] at ho
              simp at ho; exact hq ho.symm) (fun c' o q ho => by
            simp only [M'] at ho
            split at ho
            · rename_i h; obtain ⟨rfl, h1, h2⟩ := h
              have := hrs.own _ _ _ (hown o (by omega) h2)
              exact ⟨by omega, this.2⟩
            · have := hrs.own c' o q ho
              exact ⟨by omega, this.2⟩) (fun c' o v hk => by
            refine ⟨hkn c' o v hk, ?_⟩
            simp only [M']
            rw [if_neg]
            · exact (hrs.known c' o v hk).2
            · rintro ⟨rfl, h1, h2⟩
              have := (hrs.known _ _ _ hk).2
              rw [hown o (by omega) h2] at this; simp at this) hkeep (by
            refine ⟨⟨p.blk, p.off + off * (c.ty e).size, p.lim, (c.ty e).size⟩, by simp [M'], rfl, ?_, a', el, hh', by simp only; omega, fun j h1 h2 => ?_, fun j dd hj => ?_⟩
            · simp only [List.length_append, hosl, hyl]; omega
            · simp only [M'] at h1 h2 ⊢
              rw [if_pos ⟨by first | trivial | rfl, h1, h2⟩]
            · simp only
              rw [List.getElem?_append] at hj
              split at hj
              · rename_i hlt
                rw [hosl] at hlt
                rw [List.getElem?_take, if_pos hlt, List.getElem?_drop] at hj
                obtain ⟨v, e1, e2, e3⟩ := hcs _ dd hj
                refine ⟨v, ?_, e2, VD.mono hle' _ _ e3⟩
                rw [ha', if_neg (by omega), Nat.add_assoc]; exact e1
              · rename_i hge
                rw [hosl] at hj hge
                obtain ⟨v, e1, e2, e3⟩ := hnew.2 _ dd hj
                have e1 : new[j - len * (c.ty e).size]? = some v := e1
                have hjl : j - len * (c.ty e).size < new.size := by
                  rcases Nat.lt_or_ge (j - len * (c.ty e).size) new.size with h | h
                  · exact h
                  · rw [Array.getElem?_eq_none h] at e1; simp at e1
                refine ⟨v, ?_, e2, VD.mono hle' _ _ e3⟩
                rw [ha', if_pos (by omega), ← e1]; congr 1; omega) hlow hws ⟨rfl, rfl⟩
        obtain ⟨k1, k2⟩ := (hsr.del hg).1.new (hrs.drop r) d (.arr (c.ty e).size gg (List.take (len * (c.ty e).size) (List.drop (off * (c.ty e).size) cs) ++ ys))
        rw [hnx] at k1 k2
        refine ⟨M', _, w', .slice (some ⟨p.blk, p.off + off * (c.ty e).size, none⟩) (len + n) cap, .inl ?_, hle', hrs', ?_, k1, (hsr.del hg).2.trans k2 k1.noctr⟩
        · simp only at g1
          rw [hrun] at g1
          simp [g1]
        · simp only [VD]
          exact ⟨⟨p.blk, p.off + off * (c.ty e).size, p.lim, (c.ty e).size⟩, cap, by simp, hle, by simp [M'], by simp only [Nat.zero_add]; omega⟩
    · simp at hd

end
end Go.Abs

/- The abstract layer, part 26: rows that are made, copies, iterators, at the machine. No conditions. -/
namespace Go.Abs
open Go.RowKit

section
variable {C : Ctx} {c : Cfg} {M : Mem} {g : Ref → Option Blk} {w : World} {ℓ : Nat} {st : St}

theorem zeroCells_elem (n : Nat) (z : List Dat) : zeroCells n z = elemCells (List.replicate n (.agg z)) := by
  unfold zeroCells elemCells
  rw [List.map_replicate, List.map_flatten, List.map_replicate]
  rfl

theorem zero_arr {n k : Nat} {z : List Dat} {zv : Array Value} (hz : Vl M z zv.toList) (hf : ∀ x ∈ zv.toList, flatV x) (hl : z.length = k) (hk : k ≠ 0) :
    ArrD M ((Array.range (n * k)).map (fun i => zv[i % zv.size]!)) (zeroCells n z) := by
  rw [zeroCells_elem]
  refine (EltA.zero (agg := true) hz hf hl hk (.inl rfl)).arr hk fun y hy => ?_
  have := (List.mem_replicate.1 hy).2
  subst this
  exact hl

theorem fillCells_put (k : Nat) : ∀ (ps : List (Nat × D)) (z : List D), fillCells k z ps = putParts z (ps.map fun p => (p.1 * k, k, p.2))
  | [], z => by simp [fillCells, putParts]
  | (i, x) :: ps, z => by
    simp only [fillCells, List.map_cons, putParts]
    split
    · exact fillCells_put k ps _
    · rfl

theorem bslice_arr_ok (hc : CfgOk C.P c) (hrs : RS C M g w) (hsr : SR g ℓ st) {t : TypeId} {e : Nat} (hk : (c.ty t).kind = .slice e) {v : Opd → D} {ρ : Operand → Value} (hv : ∀ x, VD M (v (opd x)) (ρ x)) {n : Nat} {ps : Array (Nat × Operand)} {cs : List D} {d : Nat} {gg : Bool}
    (hz : (c.ty e).zero.cells.length = (c.ty e).size) (he : (c.ty e).size ≠ 0) (hn : n * (c.ty e).size ≤ 16777216)
    (hl : fillCells (c.ty e).size (zeroCells n (c.ty e).zero.cells) (ps.toList.map fun p => (p.1, v (opd p.2))) = some cs) :
    WOk C M g w ℓ st (st.new ℓ d (.arr (c.ty e).size gg cs)) (do pure (.value (← Instr.buildSlice t n (ps.map fun (i, x) => (i, ρ x))))) (.arr (.v ℓ d st.next) 0 n) := by
  obtain ⟨it, td, ty⟩ := hc.of_kind (t := t) (by rw [hk]; simp)
  have := ty.slice hk; subst this
  obtain ⟨ie, de, tye⟩ := hc.of_size he
  have hne : (c.ty e).zero ≠ .any := by intro e'; rw [e'] at hz; simp [Dat.cells] at hz; omega
  have hne' : (c.ty e).zero.cells ≠ [] := by intro e'; rw [e'] at hz; simp at hz; omega
  obtain ⟨zv, g1, _, g2⟩ := tye.run_zero (w := w) hne M
  obtain ⟨g3, g4⟩ := V_cells g2 hne'
  have hVl : Vl M (c.ty e).zero.cells zv.cells.toList := by
    refine (VDl_dat M _ _).1 (VDl_of (by simpa using g3) fun j d u e1 e2 => ?_)
    obtain ⟨y, f1, f2, f3⟩ := g4 j d e1
    have f1' : zv.cells[j]? = some y := f1
    rw [Array.getElem?_toList, f1'] at e2
    cases e2; exact f3
  have start : ∃ z, ((n * (c.ty e).size = 0 ∧ z = #[]) ∨ (¬ n * (c.ty e).size = 0 ∧ z = zv.cells)) ∧
      ArrD M ((Array.range (n * (c.ty e).size)).map (fun i => z[i % z.size]!)) (zeroCells n (c.ty e).zero.cells) := by
    by_cases h0 : n = 0
    · subst h0
      exact ⟨#[], .inl ⟨by simp, rfl⟩, by simp [zeroCells], fun j d h => by simp [zeroCells] at h⟩
    · exact ⟨zv.cells, .inr ⟨fun h => by rcases Nat.mul_eq_zero.1 h with h | h <;> contradiction, rfl⟩, zero_arr hVl (V_flat g2 hne') hz he⟩
  obtain ⟨z, hz1, hz2⟩ := start
  rw [fillCells_put] at hl
  obtain ⟨b, hb1, hb2⟩ := fill_ok (M := M) (place := fun i => some (i * (c.ty e).size, (c.ty e).size)) (ps.toList.map fun p => (p.1, v (opd p.2), ρ p.2)) _ _ _ cs hz2 (fun p hp => by
    simp at hp; obtain ⟨a, o, _, rfl⟩ := hp; exact hv _) (by simp) (fun j p q h1 h2 => by
      simp only [List.getElem?_map, Option.map_eq_some_iff] at h1 h2
      obtain ⟨a, h1, rfl⟩ := h1
      obtain ⟨a', ⟨a2, h2, rfl⟩, rfl⟩ := h2
      rw [h1] at h2; simp at h2; subst h2
      exact ⟨rfl, rfl, he⟩) hl
  have hlen : cs.length = n * (c.ty e).size := by
    have key : ∀ (qs : List (Nat × Nat × D)) (z l : List D), putParts z qs = some l → l.length = z.length := by
      intro qs
      induction qs with
      | nil => intro z l h; simp [putParts] at h; rw [h]
      | cons q qs ih =>
        intro z l h
        obtain ⟨o, m, x⟩ := q
        simp only [putParts] at h
        split at h
        · rw [ih _ _ h, setAt_length]
        · simp at h
    rw [key _ _ _ hl, ← hz2.1]; simp
  have hb1' : Instr.fill (fun i => some (i * (c.ty e).size, (c.ty e).size)) ((Array.range (n * (c.ty e).size)).map (fun i => z[i % z.size]!)) (ps.map fun (i, x) => (i, ρ x)).toList = some b := by
    rw [← hb1]; simp [Function.comp_def]
  have hng : ¬ (n * (c.ty e).size > 2 ^ 24) := by omega
  have hpl : M.place (.v ℓ d st.next) = none := by
    obtain ⟨l, e, hl⟩ := hrs.blk _ _ hsr.ctr
    cases e
    exact hl d st.next (Nat.le_refl _)
  have hle := Mem.own_le (p := ⟨w.heap.size, 0, cs.length, (c.ty e).size⟩) (b := w.heap.size) hpl
  refine new_ok hrs hsr (o := .cells b e) (p := ⟨w.heap.size, 0, cs.length, (c.ty e).size⟩) (u := .slice (some ⟨w.heap.size, 0, none⟩) n n) ?_ ?_ ?_
  · simp only [Instr.buildSlice, Sem.run_bind, ty.run_underlying, Result.andThen_ok, tye.run_sizeOf, hng, if_false]
    rcases hz1 with ⟨h0, rfl⟩ | ⟨h0, rfl⟩
    · rw [if_pos h0]
      simp only [Sem.run_bind, Sem.run_pure, Result.andThen_ok, hb1', newRow, run_newObj, World.alloc_eq]
    · rw [if_neg h0]
      simp only [Sem.run_bind, g1, Sem.run_pure, Result.andThen_ok, hb1', newRow, run_newObj, World.alloc_eq]
  · refine ⟨_, own_place _ _ _ _, rfl, by simp, b, e, World.alloc_heap_new w _, by simp only; rw [hb2.1]; exact Nat.le_refl _, fun j _ _ => own_owner _ _ _ _ _, fun j dd hj => ?_⟩
    obtain ⟨v, e1, e2, e3⟩ := hb2.2 j dd hj
    exact ⟨v, by simp only [Nat.zero_add]; exact e1, e2, VD.mono hle _ _ e3⟩
  · simp only [VD]
    exact ⟨_, n, by simp, Nat.le_refl _, own_place _ _ _ _, by simp [hlen]⟩

theorem mkslice_ok (hc : CfgOk C.P c) (hrs : RS C M g w) (hsr : SR g ℓ st) {t : TypeId} {e : Nat} (hk : (c.ty t).kind = .slice e) (hby : (c.ty e).bytes ≤ 4096) {d : Nat} {arr : Bool} {x y : D} {ux uy : Value} (hx : VD M x ux) (hy : VD M y uy) {dv : D} {st' : St}
    (hd : mksliceSt ℓ d st arr (c.ty e).size (c.ty e).agg (c.ty e).zero.cells x y = some (dv, st')) : WOk C M g w ℓ st st' (do pure (.value (← Instr.makeSlice t ux uy))) dv := by
  obtain ⟨it, td, ty⟩ := hc.of_kind (t := t) (by rw [hk]; simp)
  have := ty.slice hk; subst this
  unfold mksliceSt at hd
  split at hd
  case h_2 => simp at hd
  rename_i k1 l k2 l2
  split at hd
  case isFalse => simp at hd
  rename_i hcnd
  obtain ⟨hz, he, hag, hl0, rfl, hlm⟩ := hcnd
  obtain ⟨ie, de, tye⟩ := hc.of_size he
  simp only [VD, V] at hx hy
  subst hx hy
  obtain ⟨n, rfl⟩ : ∃ n : Nat, l = n := ⟨l.toNat, by omega⟩
  simp only [Int.toNat_natCast] at hd
  have hne : (c.ty e).zero ≠ .any := by intro e'; rw [e'] at hz; simp [Dat.cells] at hz; omega
  have hne' : (c.ty e).zero.cells ≠ [] := by intro e'; rw [e'] at hz; simp at hz; omega
  obtain ⟨zv, g1, gz, g2⟩ := tye.run_zero (w := w) hne M
  obtain ⟨g3, g4⟩ := V_cells g2 hne'
  have hVl : Vl M (c.ty e).zero.cells zv.cells.toList := by
    refine (VDl_dat M _ _).1 (VDl_of (by simpa using g3) fun j d u e1 e2 => ?_)
    obtain ⟨y, f1, f2, f3⟩ := g4 j d e1
    have f1' : zv.cells[j]? = some y := f1
    rw [Array.getElem?_toList, f1'] at e2
    cases e2; exact f3
  unfold mostLen at hlm
  have hlm : n ≤ 4294967296 := by omega
  have hbytes : ie.bytes ≤ 4096 := by rw [← tye.bytes]; exact hby
  have hbig : (ie.bytes : Int) * (n : Int) ≤ 281474976710656 := by
    have : ie.bytes * n ≤ 4096 * 4294967296 := Nat.mul_le_mul hbytes hlm
    have h2 : ((ie.bytes * n : Nat) : Int) ≤ ((4096 * 4294967296 : Nat) : Int) := Int.ofNat_le.2 this
    rw [Int.natCast_mul] at h2
    exact Int.le_trans h2 (by decide)
  have hrun := run_make (P := C.P) w t e ie zv ty.und tye.info gz k1 k2 n n (by omega) (Int.le_refl _) hbig (by omega)
  simp only [Int.toNat_natCast, ← tye.size] at hrun
  have hes : zv.cells.size = (c.ty e).size := by omega
  cases arr with
  | true =>
    simp only [cond_true, Option.some.injEq, Prod.mk.injEq] at hd
    obtain ⟨rfl, rfl⟩ := hd
    have harr : ArrD M (madeCells zv.cells (n * (c.ty e).size)) (zeroCells n (c.ty e).zero.cells) := zero_arr hVl (V_flat g2 hne') hz he
    have hlen : (zeroCells n (c.ty e).zero.cells).length = n * (c.ty e).size := by rw [← harr.1]; simp [madeCells]
    have hpl : M.place (.v ℓ d st.next) = none := by
      obtain ⟨l, e, hl⟩ := hrs.blk _ _ hsr.ctr
      cases e
      exact hl d st.next (Nat.le_refl _)
    have hle := Mem.own_le (p := ⟨w.heap.size, 0, n * (c.ty e).size, (c.ty e).size⟩) (b := w.heap.size) hpl
    refine new_ok hrs hsr (o := .cells (madeCells zv.cells (n * (c.ty e).size)) e) (p := ⟨w.heap.size, 0, n * (c.ty e).size, (c.ty e).size⟩) (u := .slice (some ⟨w.heap.size, 0, none⟩) n n) (by simp [hrun]) ?_ ?_
    · refine ⟨_, own_place _ _ _ _, rfl, by simp [hlen], _, e, World.alloc_heap_new w _, by simp [madeCells], fun j _ _ => own_owner _ _ _ _ _, fun j dd hj => ?_⟩
      obtain ⟨v, e1, e2, e3⟩ := harr.2 j dd hj
      exact ⟨v, by simp only [Nat.zero_add]; exact e1, e2, VD.mono hle _ _ e3⟩
    · simp only [VD]
      exact ⟨_, n, by simp, Nat.le_refl _, own_place _ _ _ _, by simp⟩
  | false =>
    simp only [cond_false, Option.some.injEq, Prod.mk.injEq] at hd
    obtain ⟨rfl, rfl⟩ := hd
    have hel : EltA M (c.ty e).size (madeCells zv.cells (n * (c.ty e).size)) (List.replicate n (zeroElem (c.ty e).agg (c.ty e).zero.cells)) := EltA.zero hVl (V_flat g2 hne') hz he (by simpa using hag)
    obtain ⟨M', h1, h2, h3⟩ := hel.know hrs e true
    simp only [List.length_replicate] at h3
    exact ⟨M', g, _, .slice (some ⟨w.heap.size, 0, none⟩) n n, .inl (by simp [hrun]), h1, h2, by simpa only [VD] using h3, hsr, Moved.refl g ℓ st⟩

theorem copy_ok (hc : CfgOk C.P c) (hrs : RS C M g w) (hsr : SR g ℓ st) {ts : Array TypeId} {t : TypeId} {e : Nat} (h0 : ts[0]? = some t) (hk : (c.ty t).kind = .slice e) {ty0 : TypeId} {x y : D} {ux uy : Value} (hx : VD M x ux) (hy : VD M y uy) {dv : D} {st' : St}
    (hd : copySt st (c.ty e).size x y = some (dv, st')) : WOk C M g w ℓ st st' (do pure (.value (← Builtin.copy_ ts ty0 #[ux, uy]))) dv := by
  obtain ⟨it, td, ty⟩ := hc.of_kind (t := t) (by rw [hk]; simp)
  have := ty.slice hk; subst this
  unfold copySt at hd
  split at hd
  case h_2 => simp at hd
  rename_i r off len
  split at hd
  case h_2 => simp at hd
  rename_i _ k' gg cs hg
  cases hys : appCells st.get (c.ty e).size y with
  | none => rw [hys] at hd; simp at hd
  | some yn =>
    obtain ⟨ys, n⟩ := yn
    rw [hys] at hd
    simp only [Option.bind_some] at hd
    split at hd
    case isFalse => simp at hd
    rename_i hcnd
    obtain ⟨rfl, he, hfit⟩ := hcnd
    simp at hd; obtain ⟨rfl, rfl⟩ := hd
    obtain ⟨ie, de, tye⟩ := hc.of_size he
    obtain ⟨hyl, new, hnew, hnewf, hlen, hfirst, hpart⟩ := appCells_ok hrs hsr.get he hy hys
    simp only [VD] at hx
    obtain ⟨p, cap, rfl, hlc, hp, hlim⟩ := hx
    obtain ⟨p', hp', hpk, hfit', a, el, hh, hsz, hown, hcs⟩ := hrs.blk _ _ (hsr.get _ _ hg)
    rw [hp] at hp'; cases hp'
    have hpart := hpart (min n len) (Nat.min_le_left _ _)
    have hns : new.size = n * (c.ty e).size := by rw [hnew.1, hyl]
    have hmn : min n len * (c.ty e).size ≤ n * (c.ty e).size := Nat.mul_le_mul_right _ (Nat.min_le_left _ _)
    have hml : min n len * (c.ty e).size ≤ len * (c.ty e).size := Nat.mul_le_mul_right _ (Nat.min_le_right _ _)
    rw [Nat.add_mul] at hfit
    have hvl : (new.extract 0 (min n len * (c.ty e).size)).toList.length = min n len * (c.ty e).size := by simp; omega
    obtain ⟨l, s', i', hrv⟩ := hrs.plv r p hp
    have hrc : ∀ l, r ≠ .ctr l := fun l => by rw [hrv]; simp
    have key : ∃ w', (storeCells ⟨p.blk, p.off + off * (c.ty e).size, none⟩ (new.extract 0 (min n len * (c.ty e).size)).toList).run C.P w = .ok () w' ∧
        RS C M (gset g r (.arr (c.ty e).size gg (setAt cs (off * (c.ty e).size) (ys.take (min n len * (c.ty e).size))))) w' := by
      by_cases hz : min n len * (c.ty e).size = 0
      · rw [hz]
        refine ⟨w, by simp [storeCells], ?_⟩
        simp only [List.take_zero, setAt]
        have : gset g r (.arr (c.ty e).size gg cs) = g := by
          funext q
          simp only [gset]
          split
          · rename_i e; subst e; exact (hsr.get _ _ hg).symm
          · rfl
        rw [this]; exact hrs
      · have hb0 := (hrs.own _ _ _ (hown (p.off + off * (c.ty e).size) (by omega) (by omega))).2
        obtain ⟨f1, f2, f3, f4, f5⟩ := lay_world hrs (r := r) (o := p.off + off * (c.ty e).size) hh (vs := (new.extract 0 (min n len * (c.ty e).size)).toList) (by rw [hvl]; omega) (fun v hv => by
          refine hnewf v ?_
          obtain ⟨j, hj, ej⟩ := List.getElem_of_mem hv
          have hj' : j < min n len * (c.ty e).size := by rw [hvl] at hj; exact hj
          have : (new.extract 0 (min n len * (c.ty e).size))[j]? = some v := by rw [← Array.getElem?_toList, List.getElem?_eq_getElem hj, ej]
          rw [Array.getElem?_extract] at this
          split at this
          · exact List.mem_of_getElem? (i := 0 + j) (by rw [Array.getElem?_toList]; exact this)
          · simp at this) (fun j h1 h2 => hown j (by omega) (by rw [hvl] at h2; omega)) hb0
        refine ⟨_, f1, hrs.turn (hsr.get _ _ hg) f3 f2 f4 (by simp) hrc ?_⟩
        refine ⟨p, hp, hpk, by rw [setAt_length]; exact hfit', _, el, f5, by rw [layV_size]; exact hsz, hown, fun j d hj => ?_⟩
        rw [setAt_get] at hj
        rw [layV_get, hvl]
        by_cases h5 : off * (c.ty e).size ≤ j ∧ j < off * (c.ty e).size + (ys.take (min n len * (c.ty e).size)).length ∧ j < cs.length
        · rw [if_pos h5] at hj
          have htl : (ys.take (min n len * (c.ty e).size)).length = min n len * (c.ty e).size := by simp; omega
          rw [htl] at h5
          rw [List.getElem?_take, if_pos (by omega)] at hj
          obtain ⟨v, e1, e2, e3⟩ := hnew.2 _ d hj
          have e1 : new[j - off * (c.ty e).size]? = some v := e1
          refine ⟨v, ?_, e2, e3⟩
          rw [if_pos (by omega), Array.getElem?_toList, Array.getElem?_extract, if_pos (by omega), ← e1]
          congr 1; omega
        · rw [if_neg h5] at hj
          obtain ⟨v, e1, e2, e3⟩ := hcs j d hj
          have hjl : j < cs.length := by
            rcases Nat.lt_or_ge j cs.length with h | h
            · exact h
            · rw [List.getElem?_eq_none h] at hj; simp at hj
          have htl : (ys.take (min n len * (c.ty e).size)).length = min n len * (c.ty e).size := by simp; omega
          rw [htl] at h5
          exact ⟨v, by rw [if_neg (by omega)]; exact e1, e2, e3⟩
    obtain ⟨w', k1, k2⟩ := key
    obtain ⟨h5, h6⟩ := hsr.upd hg (.arr (c.ty e).size gg (setAt cs (off * (c.ty e).size) (ys.take (min n len * (c.ty e).size))))
    refine ⟨M, _, w', .int .i64 ((min n len : Nat) : Int), .inl ?_, .refl M, k2, ?_, h5, h6⟩
    · rw [hpk]
      simp [Builtin.copy_, h0, ty.run_underlying, hlen, tye.run_sizeOf, hpart, goInt]
      simp at k1
      simp [k1]
    · simp only [VD, V]
      congr 1; omega

end
end Go.Abs

/- A row of cells read and written as one value: the walk's rules. Nothing of a program. -/
import Derived.Test.YtnodjlgihhinpaaDoorBase
import Derived.Deep.MidRow
namespace Go.Proofs.YtnodjlgihhinpaaDoor
open Go.RowKit
set_option linter.unusedVariables false
set_option linter.unusedSimpArgs false

/-- The n cells of block b from place o on, if they are there. -/
def rng? (w : World) (b o n : Nat) : Option (Array Value) :=
  if (List.range n).all (fun j => (w.cell? ⟨b, o + j, none⟩).isSome) then some ((List.range n).map (fun j => (w.cell? ⟨b, o + j, none⟩).getD undef)).toArray else none
/-- May they be written? -/
def may (w : World) (b o n : Nat) : Bool := (List.range n).all (fun j => (w.cell? ⟨b, o + j, none⟩).isSome && !w.frozen? ⟨b, o + j, none⟩)
/-- They are written. -/
def setRng (w : World) (b o : Nat) (cs : Array Value) : World := w.setCells b o cs.toList

theorem rng?_congr {w w' : World} {b o n : Nat} (h : ∀ j, j < n → w'.cell? ⟨b, o + j, none⟩ = w.cell? ⟨b, o + j, none⟩) : rng? w' b o n = rng? w b o n := by
  unfold rng?
  have h1 : (List.range n).all (fun j => (w'.cell? ⟨b, o + j, none⟩).isSome) = (List.range n).all (fun j => (w.cell? ⟨b, o + j, none⟩).isSome) := by
    rw [Bool.eq_iff_iff]
    simp only [List.all_eq_true, List.mem_range]
    exact ⟨fun k j hj => by rw [← h j hj]; exact k j hj, fun k j hj => by rw [h j hj]; exact k j hj⟩
  rw [h1]
  congr 2
  congr 1
  exact List.map_congr_left (fun j hj => by rw [h j (List.mem_range.1 hj)])

theorem rng?_mk {w : World} {b o n : Nat} {cs : Array Value} (hs : cs.size = n) (h : ∀ j (hj : j < cs.size), w.cell? ⟨b, o + j, none⟩ = some cs[j]) : rng? w b o n = some cs := by
  subst hs
  unfold rng?
  rw [if_pos]
  · congr 1
    apply Array.ext
    · simp
    · intro j h1 h2
      simp [h j h2]
  · simp only [List.all_eq_true, List.mem_range]
    intro j hj
    rw [h j hj]; rfl

theorem rng?_cell {w : World} {b o n : Nat} {cs : Array Value} (h : rng? w b o n = some cs) : cs.size = n ∧ ∀ j (hj : j < cs.size), w.cell? ⟨b, o + j, none⟩ = some cs[j] := by
  unfold rng? at h
  split at h
  · rename_i hall
    simp only [Option.some.injEq] at h
    subst h
    refine ⟨by simp, fun j hj => ?_⟩
    simp only [List.all_eq_true, List.mem_range] at hall
    have hj' : j < n := by simpa using hj
    have := hall j hj'
    obtain ⟨u, hu⟩ := Option.isSome_iff_exists.1 this
    simp [hu]
  · cases h

theorem rng?_range {w : World} {b o n : Nat} {cs : Array Value} (h : rng? w b o n = some cs) : w.rangeAt b o cs.toList := by
  intro j v hv
  obtain ⟨h1, h2⟩ := rng?_cell h
  obtain ⟨hj, rfl⟩ := List.getElem?_eq_some_iff.1 hv
  simpa using h2 j (by simpa using hj)

theorem rng?_row {w : World} {b : Nat} {cs : Array Value} {t : TypeId} {fr : Nat × Nat} (h : w.heap[b]? = some (.cells cs t fr)) {n : Nat} (hs : cs.size = n) : rng? w b 0 n = some cs :=
  rng?_mk hs fun j hj => by rw [cell_of_row w b _ cs t fr h]; simp [hj]

theorem rng?_chg {F : List Nat} {w w' : World} (hc : Chg F w w') {b o n : Nat} {cs : Array Value} (h : rng? w b o n = some cs) (hn : 0 < n) (hF : b ∉ F) : rng? w' b o n = some cs := by
  rw [← h]
  apply rng?_congr
  intro j hj
  obtain ⟨h1, h2⟩ := rng?_cell h
  exact hc.cell (p := ⟨b, o + j, none⟩) (World.block_lt_of_cell? _ _ (h2 j (by omega))) hF

section
variable (w : World) (b o n : Nat)
@[go_sem] theorem rng?_drew : rng? w.drew b o n = rng? w b o n := rfl
@[go_sem] theorem rng?_drewN (k : Nat) : rng? (w.drewN k) b o n = rng? w b o n := rfl
@[go_sem] theorem may_drew : may w.drew b o n = may w b o n := rfl
@[go_sem] theorem may_drewN (k : Nat) : may (w.drewN k) b o n = may w b o n := rfl
@[go_sem] theorem rng?_alloc_past (x : Obj) (h : b < w.heap.size) : rng? (w.alloc x) b o n = rng? w b o n :=
  rng?_congr fun j _ => World.cell?_alloc_lt _ _ _ h
@[go_sem] theorem may_alloc_past (x : Obj) (h : b < w.heap.size) : may (w.alloc x) b o n = may w b o n := by
  unfold may
  congr 1
  funext j
  rw [World.cell?_alloc_lt _ _ _ h, World.frozen?_alloc_old _ _ _ (by simp; omega)]
@[go_sem] theorem rng?_alloc_at (c : Array Value) (t : TypeId) (hb : b = w.heap.size) (hs : c.size = n) : rng? (w.alloc (.cells c t)) b 0 n = some c := by
  subst hb
  exact rng?_row (blk_new w _) hs
@[go_sem] theorem may_alloc_at (c : Array Value) (t : TypeId) (hb : b = w.heap.size) (hs : c.size = n) : may (w.alloc (.cells c t)) b 0 n = true := by
  subst hb hs
  unfold may
  simp only [List.all_eq_true, List.mem_range]
  intro j hj
  rw [cell_of_row _ _ _ _ _ _ (blk_new w _), frozen_of_row _ _ _ _ _ (blk_new w _)]
  simp [hj]
@[go_sem] theorem rng?_setCell_other (a : Addr) (v : Value) (h : ¬ b = a.block) : rng? (w.setCell a v) b o n = rng? w b o n :=
  rng?_congr fun j _ => World.cell?_setCell_other _ _ _ _ (fun e => h (by rw [e]))
theorem may_set (a : Addr) (v : Value) : may w b o n = true → may (w.setCell a v) b o n = true := by
  unfold may
  simp only [List.all_eq_true, List.mem_range]
  intro h j hj
  have h1 := h j hj
  rw [Bool.and_eq_true] at h1 ⊢
  refine ⟨?_, by rw [World.frozen?_setCell]; exact h1.2⟩
  obtain ⟨u, hu⟩ := Option.isSome_iff_exists.1 h1.1
  obtain ⟨v', hv'⟩ := cell?_setCell_some (w := w) (p := a) (x := v) (q := ⟨b, o + j, none⟩) (v := u) hu
  rw [hv']; rfl
@[go_sem] theorem may_setCell (a : Addr) (v : Value) (h : may w b o n = true) : may (w.setCell a v) b o n = true := may_set w b o n a v h
theorem may_row {w : World} {b : Nat} {cs : Array Value} {t : TypeId} (h : w.heap[b]? = some (.cells cs t (0, 0))) (hs : o + n ≤ cs.size) : may w b o n = true := by
  unfold may
  simp only [List.all_eq_true, List.mem_range]
  intro j hj
  rw [cell_of_row _ _ _ _ _ _ h, frozen_of_row _ _ _ _ _ h]
  have : o + j < cs.size := by omega
  simp [this]
theorem may_there {w : World} {b o n : Nat} (h : may w b o n = true) : w.there b o n := by
  intro j hj
  unfold may at h
  simp only [List.all_eq_true, List.mem_range, Bool.and_eq_true, Bool.not_eq_true'] at h
  exact h j hj
end

/-- Is each of them one cell? -/
def one1 (cs : Array Value) : Bool := cs.all (·.oneCell')

section
variable {P : Program}
/-- What a load of a row comes to. -/
def ldR (P : Program) (t : TypeId) (b o : Nat) (w : World) : Option (Array Value) → Result Value
  | some cs => .ok (.agg cs) w
  | none => (Instr.loadAt t (.pointer (some ⟨b, o, none⟩))).run P w
@[go_sem] theorem ldR_some (t : TypeId) (b o : Nat) (w : World) (cs : Array Value) : ldR P t b o w (some cs) = .ok (.agg cs) w := rfl
theorem run_ldR (t : TypeId) (d : TypeDesc) (n : Nat) (hu : P.underlying t = some d) (hd : d.isRow = true) (hi : (P.info? t).map (·.size) = some n) (b o : Nat) (w : World) :
    (Instr.loadAt t (.pointer (some ⟨b, o, none⟩))).run P w = ldR P t b o w (rng? w b o n) := by
  cases h : rng? w b o n with
  | none => rfl
  | some cs =>
    have := run_loadAt_mid (P := P) w b o t cs.toList d (rng?_range h) hu hd (by rw [hi, Array.length_toList, (rng?_cell h).1])
    simpa [ldR] using this
/-- What a store of a row comes to. -/
def stR (P : Program) (t : TypeId) (b o : Nat) (cs : Array Value) (w : World) : Bool → Result Unit
  | true => .ok () (setRng w b o cs)
  | false => (Instr.storeAt t (.pointer (some ⟨b, o, none⟩)) (.agg cs)).run P w
@[go_sem] theorem stR_true (t : TypeId) (b o : Nat) (w : World) (cs : Array Value) : stR P t b o cs w true = .ok () (setRng w b o cs) := rfl
theorem run_stR (t : TypeId) (n : Nat) (hi : (P.info? t).map (·.size) = some n) (b o : Nat) (cs : Array Value) (w : World) :
    (Instr.storeAt t (.pointer (some ⟨b, o, none⟩)) (.agg cs)).run P w = stR P t b o cs w (may w b o n && decide (cs.size = n) && one1 cs) := by
  cases h : (may w b o n && decide (cs.size = n) && one1 cs) with
  | false => rfl
  | true =>
    simp only [Bool.and_eq_true, decide_eq_true_eq] at h
    exact run_storeAt_mid w b o t cs (by rw [h.1.2]; exact may_there h.1.1) (by rw [hi, h.1.2]) h.2
end

/-! The operations held back till their operands are reckoned. -/
def ldX (t : TypeId) (x : Value) : Sem Value := Instr.loadAt t x
def stX (t : TypeId) (x v : Value) : Sem Unit := Instr.storeAt t x v
def bdX (t : TypeId) (ps : Array (Nat × Value)) : Sem Value := Instr.build t ps
def lvX (t : TypeId) (a : Addr) : Sem Value := loadVar t a
def deX (ts : Array TypeId) (ty : TypeId) (xs : Array Value) : Sem Value := Builtin.delete_ ts ty xs
@[go_sem ↓] theorem hold_de (ts : Array TypeId) (ty : TypeId) (xs : Array Value) : Builtin.delete_ ts ty xs = deX ts ty xs := rfl
theorem run_lvR {P : Program} (t : TypeId) (d : TypeDesc) (n : Nat) (hu : P.underlying t = some d) (hd : d.isRow = true) (hi : (P.info? t).map (·.size) = some n) (b o : Nat) (w : World) :
    (lvX t ⟨b, o, none⟩).run P w = ldR P t b o w (rng? w b o n) := by
  rw [← run_ldR t d n hu hd hi b o w]
  simp [Instr.loadAt, Instr.sureAddr, lvX]
def bsX (t : TypeId) (n : Nat) (ps : Array (Nat × Value)) : Sem Value := Instr.buildSlice t n ps

/-! What is known behind a write. -/
theorem setCells_heap (g : Nat) (t : TypeId) : ∀ (vs : List Value) (o : Nat) (cur : Array Value) (w : World), w.heap[g]? = some (.cells cur t (0, 0)) → o + vs.length ≤ cur.size →
    (w.setCells g o vs).heap[g]? = some (.cells (cur.toList.take o ++ vs ++ cur.toList.drop (o + vs.length)).toArray t (0, 0))
  | [], o, cur, w, h, _ => by simp [World.setCells, h]
  | v :: r, o, cur, w, h, hl => by
    simp at hl
    rw [World.setCells, setCells_heap g t r (o + 1) (cur.setIfInBounds o v) (w.setCell ⟨g, o, none⟩ v) (blk_set h o v) (by simp; omega)]
    congr 3
    have e : (cur.setIfInBounds o v).toList = cur.toList.take o ++ [v] ++ cur.toList.drop (o + 1) := by
      rw [Array.toList_setIfInBounds, List.set_eq_take_append_cons_drop, if_pos (by simp; omega)]
      simp
    rw [e]
    have h1 : (cur.toList.take o).length = o := by simp; omega
    have e2 : (cur.toList.take o ++ [v] ++ cur.toList.drop (o + 1)).take (o + 1) = cur.toList.take o ++ [v] := by
      rw [List.take_append_of_le_length (by simp; omega), List.take_of_length_le (by simp; omega)]
    have e3 : (cur.toList.take o ++ [v] ++ cur.toList.drop (o + 1)).drop (o + 1 + r.length) = cur.toList.drop (o + (v :: r).length) := by
      rw [List.drop_append, List.drop_eq_nil_of_le (by simp; omega), List.drop_drop]
      simp only [List.nil_append, List.length_append, List.length_cons, List.length_nil, h1]
      congr 1
      omega
    rw [e2, e3]
    simp
theorem setCells_other (g : Nat) : ∀ (vs : List Value) (o : Nat) (w : World) (k : Nat), k ≠ g → (w.setCells g o vs).heap[k]? = w.heap[k]?
  | [], _, _, _, _ => rfl
  | v :: r, o, w, k, h => by rw [World.setCells, setCells_other g r _ _ k h, heap_setCell_other _ _ _ _ h]
theorem setCells_size (g : Nat) : ∀ (vs : List Value) (o : Nat) (w : World), (w.setCells g o vs).heap.size = w.heap.size
  | [], _, _ => rfl
  | v :: r, o, w => by rw [World.setCells, setCells_size g r]; simp
theorem setCells_os (g : Nat) : ∀ (vs : List Value) (o : Nat) (w : World), (w.setCells g o vs).os = w.os ∧ (w.setCells g o vs).tape = w.tape ∧ (w.setCells g o vs).output = w.output
  | [], _, _ => ⟨rfl, rfl, rfl⟩
  | v :: r, o, w => setCells_os g r (o + 1) (w.setCell ⟨g, o, none⟩ v)

theorem setRng_chg (w : World) (b o : Nat) (cs : Array Value) : Chg [b] w (setRng w b o cs) := by
  obtain ⟨h1, h2, h3⟩ := setCells_os b cs.toList o w
  exact ⟨h1, h2, h3, by rw [setRng, setCells_size]; exact Nat.le_refl _, fun k _ hk => setCells_other b _ _ _ _ (fun e => hk (by simp [e]))⟩
theorem Chg.setRng {F : List Nat} {a w : World} (h : Chg F a w) {b : Nat} (hp : b ∈ F ∨ a.heap.size ≤ b) (o : Nat) (cs : Array Value) : Chg F a (Proofs.YtnodjlgihhinpaaDoor.setRng w b o cs) :=
  h.trans (setRng_chg w b o cs) (by simpa using hp)
@[go_sem, simp] theorem setRng_size (w : World) (b o : Nat) (cs : Array Value) : (setRng w b o cs).heap.size = w.heap.size := setCells_size b _ _ _
theorem setRng_heap {w : World} {b : Nat} {cur : Array Value} {t : TypeId} (h : w.heap[b]? = some (.cells cur t (0, 0))) (o : Nat) (cs : Array Value) (hl : o + cs.size ≤ cur.size) :
    (setRng w b o cs).heap[b]? = some (.cells (cur.toList.take o ++ cs.toList ++ cur.toList.drop (o + cs.size)).toArray t (0, 0)) := by
  have := setCells_heap b t cs.toList o cur w h (by simpa using hl)
  simpa [setRng] using this
@[go_sem] theorem setRng_drew (w : World) (b o : Nat) (cs : Array Value) : setRng w.drew b o cs = (setRng w b o cs).drew := by
  unfold setRng
  generalize cs.toList = l
  induction l generalizing w o with
  | nil => rfl
  | cons v r ih => rw [World.setCells, World.setCell_drew, ih]; rfl
@[go_sem] theorem setRng_drewN (w : World) (k b o : Nat) (cs : Array Value) : setRng (w.drewN k) b o cs = (setRng w b o cs).drewN k := by
  unfold setRng
  generalize cs.toList = l
  induction l generalizing w o with
  | nil => rfl
  | cons v r ih => rw [World.setCells, show (w.drewN k).setCell ⟨b, o, none⟩ v = (w.setCell ⟨b, o, none⟩ v).drewN k from rfl, ih]; rfl
@[go_sem] theorem cell?_setRng_other (w : World) (b o : Nat) (cs : Array Value) (a : Addr) (h : ¬ a.block = b) : (setRng w b o cs).cell? a = w.cell? a :=
  World.cell?_setCells_out b _ _ _ _ (fun e => absurd e h)
@[go_sem] theorem frozen?_setRng (w : World) (b o : Nat) (cs : Array Value) (a : Addr) : (setRng w b o cs).frozen? a = w.frozen? a := World.frozen?_setCells b _ _ _ _
@[go_sem] theorem rng?_setRng_other (w : World) (b o : Nat) (cs : Array Value) (b' o' n : Nat) (h : ¬ b' = b) : rng? (setRng w b o cs) b' o' n = rng? w b' o' n :=
  rng?_congr fun j _ => cell?_setRng_other w b o cs _ h
@[go_sem] theorem setRng_alloc_at (w : World) (c cs : Array Value) (t : TypeId) (b : Nat) (hb : b = w.heap.size) (hs : c.size = cs.size) : setRng (w.alloc (.cells c t)) b 0 cs = w.alloc (.cells cs t) := by
  subst hb
  have h := setRng_heap (blk_new w (.cells c t)) 0 cs (by omega)
  have h1 : c.toList.drop (0 + cs.size) = [] := by rw [List.drop_eq_nil_iff]; simp; omega
  rw [h1] at h
  simp only [List.take_zero, List.nil_append, List.append_nil, Array.toArray_toList] at h
  obtain ⟨h3, h4, h5⟩ := setCells_os w.heap.size cs.toList 0 (w.alloc (.cells c t))
  have hd : (setRng (w.alloc (.cells c t)) w.heap.size 0 cs).drawn = w.drawn := by
    unfold setRng
    generalize cs.toList = l
    have : ∀ (l : List Value) (o : Nat) (w' : World), (w'.setCells w.heap.size o l).drawn = w'.drawn := by
      intro l
      induction l with
      | nil => intro o w'; rfl
      | cons v r ih => intro o w'; rw [World.setCells, ih]; rfl
    exact this l 0 _
  have hh : (setRng (w.alloc (.cells c t)) w.heap.size 0 cs).heap = (w.alloc (.cells cs t)).heap := by
    apply Array.ext_getElem?
    intro k
    by_cases hk : k = w.heap.size
    · subst hk; rw [h, blk_new]
    · rw [show (setRng (w.alloc (.cells c t)) w.heap.size 0 cs).heap[k]? = (w.alloc (.cells c t)).heap[k]? from setCells_other _ _ _ _ _ hk]
      show (w.heap.push _)[k]? = (w.heap.push _)[k]?
      rw [Array.getElem?_push, Array.getElem?_push, if_neg hk, if_neg hk]
  generalize hq : setRng (w.alloc (.cells c t)) w.heap.size 0 cs = q at *
  cases q
  simp only [World.alloc] at *
  unfold setRng at hq
  rw [hq] at h3 h4 h5
  simp_all
theorem may_cell {w : World} {b o n : Nat} (h : may w b o n = true) {j : Nat} (hj : j < n) : (w.cell? ⟨b, o + j, none⟩).isSome = true ∧ w.frozen? ⟨b, o + j, none⟩ = false := may_there h j hj
theorem may_chg {F : List Nat} {w w' : World} (hc : Chg F w w') {b o n : Nat} (h : may w b o n = true) (hn : 0 < n) (hF : b ∉ F) : may w' b o n = true := by
  unfold may
  simp only [List.all_eq_true, List.mem_range]
  intro j hj
  obtain ⟨h1, h2⟩ := may_cell h hj
  obtain ⟨u, hu⟩ := Option.isSome_iff_exists.1 h1
  have hl := World.block_lt_of_cell? _ _ hu
  rw [hc.cell (p := ⟨b, o + j, none⟩) hl hF, hc.frozen (p := ⟨b, o + j, none⟩) hl hF, h1, h2]
  rfl
@[go_sem] theorem rng?_setRng_same (w : World) (b o n : Nat) (cs : Array Value) (h : may w b o n = true) (hs : cs.size = n) : rng? (setRng w b o cs) b o n = some cs := by
  refine rng?_mk hs fun j hj => ?_
  have := World.cell?_setCells_in b cs.toList o w (fun i hi => (may_cell h (by simp at hi; omega)).1) j (by simpa using hj)
  simpa [setRng] using this
@[go_sem] theorem may_setRng (w : World) (b o n b' o' : Nat) (cs : Array Value) (h : may w b o n = true) : may (setRng w b' o' cs) b o n = true := by
  have : ∀ (l : List Value) (w : World) (o' : Nat), may w b o n = true → may (w.setCells b' o' l) b o n = true := by
    intro l
    induction l with
    | nil => intro w o' h; exact h
    | cons v r ih => intro w o' h; exact ih _ _ (may_set _ _ _ _ _ _ h)
  exact this _ _ _ h

/-! Results that lie in memory. -/
theorem results_row2 {P : Program} {fn : Func} {p q : Tmp} {t : TypeId} (d : TypeDesc) (n : Nat) (hu : P.underlying t = some d) (hd : d.isRow = true) (hi : (P.info? t).map (·.size) = some n)
    (h : fn.results = #[.cell p t, .tmp q]) (tmps : Array Value) (w : World) {b o : Nat} {cs : Array Value} (hp : tmps.getD p undef = .pointer (some ⟨b, o, none⟩)) (hr : rng? w b o n = some cs) :
    (results fn tmps).run P w = .ok (.tuple #[.agg cs, tmps.getD q undef]) w := by
  have hl := run_lvR (P := P) t d n hu hd hi b o w
  rw [hr] at hl
  have hl : (loadVar t ⟨b, o, none⟩).run P w = .ok (.agg cs) w := hl
  have hp' : tmps[p]?.getD undef = .pointer (some ⟨b, o, none⟩) := by simpa using hp
  simp [results, h, hp', asAddr, hl]
theorem results_row1 {P : Program} {fn : Func} {p : Tmp} {t : TypeId} (d : TypeDesc) (n : Nat) (hu : P.underlying t = some d) (hd : d.isRow = true) (hi : (P.info? t).map (·.size) = some n)
    (h : fn.results = #[.cell p t]) (tmps : Array Value) (w : World) {b o : Nat} {cs : Array Value} (hp : tmps.getD p undef = .pointer (some ⟨b, o, none⟩)) (hr : rng? w b o n = some cs) :
    (results fn tmps).run P w = .ok (.agg cs) w := by
  have hl := run_lvR (P := P) t d n hu hd hi b o w
  rw [hr] at hl
  have hl : (loadVar t ⟨b, o, none⟩).run P w = .ok (.agg cs) w := hl
  have hp' : tmps[p]?.getD undef = .pointer (some ⟨b, o, none⟩) := by simpa using hp
  simp [results, h, hp', asAddr, hl]
end Go.Proofs.YtnodjlgihhinpaaDoor

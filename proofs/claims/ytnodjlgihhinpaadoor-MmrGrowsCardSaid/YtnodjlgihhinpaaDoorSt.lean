/- The store: what it is in memory. -/
import Derived.Test.YtnodjlgihhinpaaDoorMapKit
import Derived.Test.YtnodjlgihhinpaaDoorRng
import Derived.Test.YtnodjlgihhinpaaDoorProg
namespace Go.Proofs.YtnodjlgihhinpaaDoor
open Go.RowKit
set_option linter.unusedVariables false
set_option linter.unusedSimpArgs false

/-- A hash's 32 cells. -/
def IsHash (h : Array Value) : Prop := h.size = 32 ∧ ∀ v ∈ h.toList, ∃ n : Int, v = .int .u8 n ∧ 0 ≤ n ∧ n < 256
def zeroHash : Array Value := Array.replicate 32 (.int .u8 0)

theorem zeroHash_size : zeroHash.size = 32 := by simp [zeroHash]
theorem zeroHash_is : IsHash zeroHash := ⟨zeroHash_size, by intro v hv; simp [zeroHash] at hv; exact ⟨0, hv, by omega, by omega⟩⟩
theorem IsHash.one {h : Array Value} (hh : IsHash h) : one1 h = true :=
  Array.all_eq_true_iff_forall_mem.2 (fun v hv => by obtain ⟨n, rfl, _⟩ := hh.2 v (by simpa using hv); rfl)
/-- A node's 33 cells. -/
def nodeOf (h : Array Value) (b : Bool) : Array Value := h.push (.bool b)
theorem nodeOf_size {h : Array Value} (hh : h.size = 32) (b : Bool) : (nodeOf h b).size = 33 := by simp [nodeOf, hh]
theorem nodeOf_one {h : Array Value} (hh : one1 h = true) (b : Bool) : one1 (nodeOf h b) = true := by
  unfold one1 at *
  rw [Array.all_eq_true_iff_forall_mem] at hh ⊢
  intro v hv
  simp only [nodeOf, Array.mem_push] at hv
  rcases hv with hv | rfl
  · exact hh v hv
  · rfl
attribute [go_sem] zeroHash_size nodeOf_size nodeOf_one
@[go_sem] theorem zeroHash_one : one1 zeroHash = true := zeroHash_is.one

theorem foldl_set (off : Nat) : ∀ (l : List Value) (n : Nat) (cs : Array Value), off + n + l.length ≤ cs.size →
    ((l.zipIdx n).foldl (fun cs (x : Value × Nat) => cs.setIfInBounds (off + x.2) x.1) cs).toList = cs.toList.take (off + n) ++ l ++ cs.toList.drop (off + n + l.length) := by
  intro l
  induction l with
  | nil => intro n cs _; simp
  | cons v r ih =>
    intro n cs hl
    simp at hl
    rw [List.zipIdx_cons, List.foldl_cons, ih (n + 1) _ (by simp; omega)]
    have e : (cs.setIfInBounds (off + n) v).toList = cs.toList.take (off + n) ++ [v] ++ cs.toList.drop (off + n + 1) := by
      rw [Array.toList_setIfInBounds, List.set_eq_take_append_cons_drop, if_pos (by simp; omega)]
      simp
    simp only [e]
    have h1 : (cs.toList.take (off + n)).length = off + n := by simp; omega
    have e2 : (cs.toList.take (off + n) ++ [v] ++ cs.toList.drop (off + n + 1)).take (off + (n + 1)) = cs.toList.take (off + n) ++ [v] := by
      rw [List.take_append_of_le_length (by simp; omega), List.take_of_length_le (by simp; omega)]
    have e3 : (cs.toList.take (off + n) ++ [v] ++ cs.toList.drop (off + n + 1)).drop (off + (n + 1) + r.length) = cs.toList.drop (off + n + (v :: r).length) := by
      rw [List.drop_append, List.drop_eq_nil_of_le (by simp; omega), List.drop_drop]
      simp only [List.nil_append, List.length_append, List.length_cons, List.length_nil, h1]
      congr 1
      omega
    rw [e2, e3]
    simp

def encU (p : Nat) : Value := .int .u64 p
def encK (p : Nat) : Value := .agg #[.int .u64 p]

theorem u_u64 : Tryd.prog.underlying 40 = some (.int .u64) := by kernel_rfl
theorem u_mapp : Tryd.prog.underlying 99 = some (.map 40 3) := by kernel_rfl
theorem u_mapc : Tryd.prog.underlying 97 = some (.map 93 98) := by kernel_rfl
theorem u_key : Tryd.prog.underlying 93 = some (.struct (Tryd.prog.fieldsOf 93)) := by kernel_rfl
theorem z_int (w : World) : (zeroValue 3).run Tryd.prog w = .ok (.int .i64 0) w := by kernel_rfl
theorem z_pchunk (w : World) : (zeroValue 98).run Tryd.prog w = .ok (.pointer none) w := by kernel_rfl

theorem encU_law : KeyEnc (K := Nat) Tryd.prog 40 encU where
  desc := ⟨_, u_u64, fun a b => .inr (by simp only [encU, Instr.sameNow, if_true, Option.some.injEq]; by_cases h : a = b <;> simp [h]; omega)⟩
  eq a b w := by
    unfold encU
    rw [Op.equal, Op.maxDepth, run_equalIn_int w 9999 40 .u64 .u64 a b u_u64]
    by_cases h : a = b <;> simp [h]; omega
  chk e a w := by
    unfold encU Instr.checkKey
    simp [run_underlying u_u64 w]
  bits a := by simp [encU, Instr.sameBits]
  inj a b h := by simp [encU] at h; omega

theorem encK_law : KeyEnc (K := Nat) Tryd.prog 93 encK where
  desc := ⟨_, u_key, fun a b => .inl (by simp [encK, Instr.sameNow])⟩
  eq a b w := by
    have h1 : (Op.equal 93 (encK a) (encK b)).run Tryd.prog w = .ok ((a : Int) == b) w := by
      unfold encK Op.equal Op.maxDepth
      simp [go_sem]
      by_cases h : (a : Int) = b <;> simp [h]
    rw [h1]
    by_cases h : a = b <;> simp [h]; omega
  chk e a w := by
    unfold encK Instr.checkKey
    simp [go_sem, run_underlying u_key w]
    unfold Instr.checkKey
    simp [run_underlying u_u64 w]
  bits a := by simp [encK, Instr.sameBits]
  inj a b h := by simp [encK] at h; omega

/-! The walk's rules on wide values. -/
@[go_sem ↓] theorem hold_ld_Hash (x : Value) : Instr.loadAt 37 x = ldX 37 x := rfl
@[go_sem ↓] theorem hold_lv_Hash (a : Addr) : loadVar 37 a = lvX 37 a := rfl
@[go_sem ↓] theorem hold_ld_node (x : Value) : Instr.loadAt 107 x = ldX 107 x := rfl
@[go_sem ↓] theorem hold_st_Hash (x v : Value) : Instr.storeAt 37 x v = stX 37 x v := rfl
@[go_sem ↓] theorem hold_st_node (x v : Value) : Instr.storeAt 107 x v = stX 107 x v := rfl
@[go_sem ↓] theorem hold_bd_Hash (ps : Array (Nat × Value)) : Instr.build 37 ps = bdX 37 ps := rfl
@[go_sem ↓] theorem hold_bd_node (ps : Array (Nat × Value)) : Instr.build 107 ps = bdX 107 ps := rfl
@[go_sem ↓] theorem hold_bs_node (n : Nat) (ps : Array (Nat × Value)) : Instr.buildSlice 103 n ps = bsX 103 n ps := rfl
theorem u_Hash : Tryd.prog.underlying 37 = some (.array 32 5) := by kernel_rfl
theorem u_node : Tryd.prog.underlying 107 = some (.struct (Tryd.prog.fieldsOf 107)) := by kernel_rfl
@[go_sem] theorem ld_Hash (b o : Nat) (w : World) : (ldX 37 (.pointer (some ⟨b, o, none⟩))).run Tryd.prog w = ldR Tryd.prog 37 b o w (rng? w b o 32) := run_ldR _ _ 32 u_Hash rfl (by kernel_rfl) b o w
@[go_sem] theorem lv_Hash (b o : Nat) (w : World) : (lvX 37 ⟨b, o, none⟩).run Tryd.prog w = ldR Tryd.prog 37 b o w (rng? w b o 32) := run_lvR _ _ 32 u_Hash rfl (by kernel_rfl) b o w
@[go_sem] theorem ld_node (b o : Nat) (w : World) : (ldX 107 (.pointer (some ⟨b, o, none⟩))).run Tryd.prog w = ldR Tryd.prog 107 b o w (rng? w b o 33) := run_ldR _ _ 33 u_node rfl (by kernel_rfl) b o w
@[go_sem] theorem st_Hash (b o : Nat) (cs : Array Value) (w : World) : (stX 37 (.pointer (some ⟨b, o, none⟩)) (.agg cs)).run Tryd.prog w = stR Tryd.prog 37 b o cs w (may w b o 32 && decide (cs.size = 32) && one1 cs) := run_stR _ 32 (by kernel_rfl) b o cs w
@[go_sem] theorem st_node (b o : Nat) (cs : Array Value) (w : World) : (stX 107 (.pointer (some ⟨b, o, none⟩)) (.agg cs)).run Tryd.prog w = stR Tryd.prog 107 b o cs w (may w b o 33 && decide (cs.size = 33) && one1 cs) := run_stR _ 33 (by kernel_rfl) b o cs w
@[go_sem ↓] theorem zv_Hash (w : World) : (zeroValue 37).run Tryd.prog w = .ok (.agg zeroHash) w := by kernel_rfl
theorem zv_node (w : World) : (zeroValue 107).run Tryd.prog w = .ok (.agg (nodeOf zeroHash false)) w := by kernel_rfl
@[go_sem] theorem bd_Hash (w : World) : (bdX 37 #[]).run Tryd.prog w = .ok (.agg zeroHash) w := by kernel_rfl
@[go_sem] theorem bd_node0 (w : World) : (bdX 107 #[]).run Tryd.prog w = .ok (.agg (nodeOf zeroHash false)) w := by kernel_rfl

theorem res_Hash2 {fn : Func} {p q : Tmp} (h : fn.results = #[.cell p 37, .tmp q]) (tmps : Array Value) (w : World) {b o : Nat} {cs : Array Value} (hp : tmps.getD p undef = .pointer (some ⟨b, o, none⟩)) (hr : rng? w b o 32 = some cs) :
    (results fn tmps).run Tryd.prog w = .ok (.tuple #[.agg cs, tmps.getD q undef]) w := results_row2 _ 32 u_Hash rfl (by kernel_rfl) h tmps w hp hr
theorem res_Hash1 {fn : Func} {p : Tmp} (h : fn.results = #[.cell p 37]) (tmps : Array Value) (w : World) {b o : Nat} {cs : Array Value} (hp : tmps.getD p undef = .pointer (some ⟨b, o, none⟩)) (hr : rng? w b o 32 = some cs) :
    (results fn tmps).run Tryd.prog w = .ok (.agg cs) w := results_row1 _ 32 u_Hash rfl (by kernel_rfl) h tmps w hp hr
theorem run_places_node (w : World) : ((Tryd.prog.fieldsOf 107).mapM fun (f : Field) => do pure (f.offset, ← sizeOf f.type)).run Tryd.prog w = .ok #[(0, 32), (32, 1)] w := by kernel_rfl
theorem fill_part (place : Nat → Option (Nat × Nat)) (cells : Array Value) (i off size : Nat) (v : Value) (rest : List (Nat × Value)) (hp : place i = some (off, size)) (hs : v.cells.size = size) (ho : off + size ≤ cells.size) :
    Instr.fill place cells ((i, v) :: rest) = Instr.fill place (cells.toList.take off ++ v.cells.toList ++ cells.toList.drop (off + size)).toArray rest := by
  subst hs
  have h := foldl_set off v.cells.toList 0 cells (by simpa using ho)
  have h2 : (v.cells.zipIdx.foldl (fun cs (x : Value × Nat) => cs.setIfInBounds (off + x.2) x.1) cells) = (cells.toList.take off ++ v.cells.toList ++ cells.toList.drop (off + v.cells.size)).toArray := by
    rw [← Array.foldl_toList, Array.toList_zipIdx]
    apply Array.toList_inj.1
    simpa using h
  rw [Instr.fill, hp]
  simp only [ne_eq, not_true, false_or, gt_iff_lt]
  rw [if_neg (by simp; omega)]
  congr 1
@[go_sem] theorem bd_node (h : Array Value) (b : Bool) (hh : h.size = 32) (w : World) : (bdX 107 #[(0, .agg h), (1, .bool b)]).run Tryd.prog w = .ok (.agg (nodeOf h b)) w := by
  unfold bdX Instr.build
  simp only [Sem.run_bind, zv_node, run_underlying u_node, Result.andThen_ok, run_places_node]
  have hz : (nodeOf zeroHash false).size = 33 := nodeOf_size zeroHash_size false
  have hl : h.toList.length = 32 := by simpa using hh
  simp only [Value.cells]
  rw [fill_part _ _ 0 0 32 (.agg h) _ rfl (by simpa [Value.cells] using hh) (by omega)]
  rw [fill_part _ _ 1 32 1 (.bool b) _ rfl rfl (by simp [Value.cells, hh, hz, zeroHash_size])]
  simp only [Instr.fill, Sem.run_pure, Result.ok.injEq, and_true, Value.agg.injEq]
  apply Array.toList_inj.1
  simp [nodeOf, Value.cells, hh, hz, List.take_append, hl, zeroHash_size]
theorem u_nodes : Tryd.prog.underlying 103 = some (.slice 107) := by kernel_rfl
theorem i_node : (Tryd.prog.info? 107).map (fun i => (i.zero, i.size, i.bytes)) = some (some (.agg (nodeOf zeroHash false)), 33, 33) := by kernel_rfl
theorem infoOf {P : Program} {t : TypeId} {z : Value} {n k : Nat} (h : (P.info? t).map (fun i => (i.zero, i.size, i.bytes)) = some (some z, n, k)) : ∃ i, P.info? t = some i ∧ i.zero = some z ∧ i.size = n ∧ i.bytes = k := by
  cases hi : P.info? t with
  | none => simp [hi] at h
  | some i => simp [hi] at h; exact ⟨i, rfl, h⟩
@[go_sem] theorem bs_node (cs : Array Value) (hs : cs.size = 33) (w : World) : (bsX 103 1 #[(0, .agg cs)]).run Tryd.prog w = .ok (.slice (some ⟨w.heap.size, 0, none⟩) 1 1) (w.alloc (.cells cs 107)) := by
  obtain ⟨i, hi, hz, hsz, _⟩ := infoOf i_node
  unfold bsX Instr.buildSlice
  have h33 : (nodeOf zeroHash false).size = 33 := nodeOf_size zeroHash_size false
  have hso : ∀ w, (sizeOf 107).run Tryd.prog w = .ok 33 w := by intro w; simp [sizeOf, typeInfo, hi, hsz]
  simp only [Sem.run_bind, run_underlying u_nodes, Result.andThen_ok, hso, zv_node, Sem.run_ite, Nat.one_mul, Sem.run_pure]
  simp only [show ¬ (33 > 2 ^ 24) from by decide, show ¬ (33 = 0) from by decide, if_false, Result.andThen_ok, Value.cells]
  rw [fill_part _ _ 0 0 33 (.agg cs) _ rfl (by simpa [Value.cells] using hs) (by simp)]
  have e : ((((Array.range 33).map fun x => (nodeOf zeroHash false)[x % (nodeOf zeroHash false).size]!).toList.take 0 ++ (Value.agg cs).cells.toList ++ ((Array.range 33).map fun x => (nodeOf zeroHash false)[x % (nodeOf zeroHash false).size]!).toList.drop (0 + 33)).toArray) = cs := by
    apply Array.toList_inj.1
    simp [Value.cells]
  rw [e]
  rfl

/-- A chunk: its key, its block, its nodes' block, how many there is room for, the nodes. -/
structure Ck where
  k : Nat
  c : Nat
  nb : Nat
  cap : Nat
  ns : List (Option (Array Value))

def nodeCells : Option (Array Value) → List Value
  | some h => h.toList ++ [.bool true]
  | none => zeroHash.toList ++ [.bool false]
def cellsOf (ns : List (Option (Array Value))) : List Value := ns.flatMap nodeCells
def liveOf (ns : List (Option (Array Value))) : Nat := ns.countP (·.isSome)

def CkIs (w : World) (x : Ck) : Prop :=
  w.heap[x.c]? = some (.cells #[.slice (some ⟨x.nb, 0, none⟩) x.ns.length x.cap, .int .i64 (liveOf x.ns)] 105 (0, 0)) ∧
  w.ownsRow 0 107 33 (.slice (some ⟨x.nb, 0, none⟩) x.ns.length x.cap) x.ns.length (cellsOf x.ns) ∧ (∀ h, some h ∈ x.ns → IsHash h) ∧ x.cap ≤ maxLen

/-- A store's numbers, blocks, chunks and pins. -/
structure SS where
  log : Nat
  n : Nat
  cm : Nat
  pm : Nat
  cks : List Ck
  pins : List (Nat × Nat)

def SS.alive (s : SS) : Nat := (s.cks.map fun x => liveOf x.ns).sum
def SS.foot (s : SS) (b : Nat) : List Nat := b :: s.cm :: s.pm :: s.cks.flatMap fun x => [x.c, x.nb]
/-- A place's chunk, and where it is in it. -/
def qk (log p : Nat) : Nat := p / 2 ^ log
def qa (log p : Nat) : Nat := p % 2 ^ log
def SS.look (s : SS) (p : Nat) : Option Ck := s.cks.find? fun x => decide (x.k = qk s.log p)
def SS.node (s : SS) (p : Nat) : Option (Array Value) := (s.look p).bind fun x => (x.ns[qa s.log p]?).join
def SS.pin (s : SS) (p : Nat) : Nat := ((s.pins.find? fun x => decide (x.1 = p)).map (·.2)).getD 0
structure SS.ok (s : SS) : Prop where
  log : s.log ≤ 16
  n : s.n < 18446744073709551616
  key : ∀ x ∈ s.cks, x.ns.length ≤ 2 ^ s.log ∧ 0 < liveOf x.ns ∧ x.k * 2 ^ s.log < 18446744073709551616
  pin : ∀ x ∈ s.pins, 0 < x.2 ∧ x.2 < 4294967296
  top : ∀ p, (s.node p).isSome = true → p < s.n
  al : s.alive ≤ 1099511627776

structure SS.apart (s : SS) (b : Nat) : Prop where
  head : b ≠ s.cm ∧ b ≠ s.pm ∧ s.cm ≠ s.pm
  each : ∀ x ∈ s.cks, x.c ≠ x.nb ∧ x.c ≠ b ∧ x.c ≠ s.cm ∧ x.c ≠ s.pm ∧ x.nb ≠ b ∧ x.nb ≠ s.cm ∧ x.nb ≠ s.pm
  two : s.cks.Pairwise fun x y => x.c ≠ y.c ∧ x.c ≠ y.nb ∧ x.nb ≠ y.c ∧ x.nb ≠ y.nb

def StIs (w : World) (b : Nat) (s : SS) : Prop :=
  w.heap[b]? = some (.cells #[.int .i64 s.log, .int .u64 s.n, .int .u64 s.alive, .map (some s.cm), .map (some s.pm)] 101 (0, 0)) ∧
  MapIs encK w s.cm (s.cks.map fun x => (x.k, .pointer (some ⟨x.c, 0, none⟩))) ∧
  MapIs encU w s.pm (s.pins.map fun x => (x.1, .int .i64 x.2)) ∧
  (∀ x ∈ s.cks, CkIs w x) ∧ s.apart b ∧ s.ok

/-- What was the object's, or is new, is the object's now; all else is as it was. -/
def Mv (F F' : List Nat) (w w' : World) : Prop := Chg F w w' ∧ ∀ k ∈ F', k ∈ F ∨ w.heap.size ≤ k

theorem CkIs.chg {w w' : World} {x : Ck} {F : List Nat} (h : CkIs w x) (hc : Chg F w w') (h1 : x.c ∉ F) (h2 : x.nb ∉ F) : CkIs w' x := by
  refine ⟨hc.at h.1 h1, ?_, h.2.2⟩
  obtain ⟨hl, hr | ⟨g, cap, cur, hv, hb, hg, rest⟩⟩ := h.2.1
  · exact ⟨hl, .inl hr⟩
  · refine ⟨hl, .inr ⟨g, cap, cur, hv, hb, hc.at hg ?_, rest⟩⟩
    simp at hv
    rw [← hv.1]; exact h2

theorem StIs.chg {w w' : World} {b : Nat} {s : SS} {F : List Nat} (h : StIs w b s) (hc : Chg F w w') (hF : ∀ k ∈ s.foot b, k ∉ F) : StIs w' b s := by
  obtain ⟨h1, h2, h3, h4, h5⟩ := h
  refine ⟨hc.at h1 (hF _ (by simp [SS.foot])), h2.chg hc (hF _ (by simp [SS.foot])), h3.chg hc (hF _ (by simp [SS.foot])), ?_, h5⟩
  intro x hx
  exact (h4 x hx).chg hc (hF _ (by simp [SS.foot]; exact .inr (.inr (.inr ⟨x, hx, .inl rfl⟩)))) (hF _ (by simp [SS.foot]; exact .inr (.inr (.inr ⟨x, hx, .inr rfl⟩))))
theorem StIs.chg0 {w w' : World} {b : Nat} {s : SS} (h : StIs w b s) (hc : Chg [] w w') : StIs w' b s := h.chg hc (by simp)

theorem StIs.lt {w : World} {b : Nat} {s : SS} (h : StIs w b s) : ∀ k ∈ s.foot b, k < w.heap.size := by
  obtain ⟨h1, h2, h3, h4, h5⟩ := h
  intro k hk
  simp only [SS.foot, List.mem_cons, List.mem_flatMap, List.not_mem_nil, or_false] at hk
  rcases hk with rfl | rfl | rfl | ⟨x, hx, rfl | rfl⟩
  · exact blk_lt h1
  · exact h2.lt
  · exact h3.lt
  · exact blk_lt (h4 x hx).1
  · exact ((h4 x hx).2.1.lt _ rfl).2
end Go.Proofs.YtnodjlgihhinpaaDoor

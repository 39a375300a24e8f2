/- Texts put into one by pack.py: Sha Base HaA HaB MapKit Rng St HashEq HaC HaD HaDb. -/
import Derived.WalkKit
import Derived.RegionTactic
import Derived.BigRegion
import Derived.BigQuiet
import Derived.Deep.QuietTactic
import Derived.Deep.Draws
import Derived.KernelRfl
import Derived.Outline
import Derived.Lib.Hide
import Derived.Laws.BitsAllLaws
import Derived.Deep.LoopGhost
import Derived.Laws.MakeOwn
import Derived.Deep.MidRow
import Derived.Stop.BytesEq
import Derived.Lib.SliceRun
import Derived.Laws.CopyRow
import Derived.Test.YtpklkefnmoaaaaaGreatDoorProg
/- The hash as plain numbers: one step, the texts, the sum. Nothing of a program. -/
namespace Go.Proofs.YtpklkefnmoaaaaaGreatDoor
set_option linter.unusedVariables false
set_option linter.unusedSimpArgs false

/-- Turned right, among 32 bits. -/
def rotrN (x n : Nat) : Nat := x / 2 ^ n + x % 2 ^ n * 2 ^ (32 - n)
theorem rotr_lt (x n : Nat) (hx : x < 4294967296) (h1 : n ≤ 32) : rotrN x n < 4294967296 := by
  unfold rotrN
  have h : (2 : Nat) ^ n * 2 ^ (32 - n) = 4294967296 := by rw [← Nat.pow_add, show n + (32 - n) = 32 by omega]
  have hp : 0 < (2 : Nat) ^ n := Nat.two_pow_pos n
  have h2 : x / 2 ^ n < 2 ^ (32 - n) := by
    rw [Nat.div_lt_iff_lt_mul hp, Nat.mul_comm, h]
    exact hx
  have h3 : x % 2 ^ n + 1 ≤ 2 ^ n := Nat.mod_lt _ hp
  have h4 : (x % 2 ^ n + 1) * 2 ^ (32 - n) ≤ 2 ^ n * 2 ^ (32 - n) := Nat.mul_le_mul_right _ h3
  rw [h, Nat.add_mul, Nat.one_mul] at h4
  omega
/-- As the machine does it. -/
theorem rotr_or (x n : Nat) (hx : x < 4294967296) (h1 : n ≤ 32) : (x * 2 ^ (32 - n)) % 4294967296 ||| x / 2 ^ n = rotrN x n := by
  have h : (2 : Nat) ^ n * 2 ^ (32 - n) = 4294967296 := by rw [← Nat.pow_add, show n + (32 - n) = 32 by omega]
  have hp : 0 < (2 : Nat) ^ n := Nat.two_pow_pos n
  have h2 : x / 2 ^ n < 2 ^ (32 - n) := by
    rw [Nat.div_lt_iff_lt_mul hp, Nat.mul_comm, h]
    exact hx
  have e : (x * 2 ^ (32 - n)) % 4294967296 = 2 ^ (32 - n) * (x % 2 ^ n) := by
    rw [← h, Nat.mul_comm ((2 : Nat) ^ n), Nat.mul_comm x, Nat.mul_mod_mul_left]
  rw [e, ← Nat.two_pow_add_eq_or_of_lt h2]
  unfold rotrN
  rw [Nat.mul_comm, Nat.add_comm]
def xor3 (x y z : Nat) : Nat := x ^^^ y ^^^ z
def chN (x y z : Nat) : Nat := (x &&& y) ^^^ (z ^^^ (x &&& z))
def majN (x y z : Nat) : Nat := (x &&& y) ^^^ (x &&& z) ^^^ (y &&& z)
theorem xor_mod2 (x y : Nat) : (x ^^^ y) % 2 = (x + y) % 2 := by
  have := @Nat.xor_mod_two_pow x y 1
  simp only [Nat.pow_one] at this
  rw [this]
  have hx := Nat.mod_lt x (show 0 < 2 by omega)
  have hy := Nat.mod_lt y (show 0 < 2 by omega)
  have e : (x + y) % 2 = (x % 2 + y % 2) % 2 := by omega
  rw [e]
  generalize x % 2 = a at *
  generalize y % 2 = b at *
  have ha : a = 0 ∨ a = 1 := by omega
  have hb : b = 0 ∨ b = 1 := by omega
  rcases ha with rfl | rfl <;> rcases hb with rfl | rfl <;> rfl
theorem xor_two (x y : Nat) : x ^^^ y = 2 * ((x / 2) ^^^ (y / 2)) + (x % 2 + y % 2) % 2 := by
  have h1 : (x ^^^ y) / 2 = (x / 2) ^^^ (y / 2) := Nat.xor_div_two
  have h2 : (x ^^^ y) % 2 = (x + y) % 2 := xor_mod2 x y
  omega
theorem and_two (x y : Nat) : x &&& y = 2 * ((x / 2) &&& (y / 2)) + (x % 2) * (y % 2) := by
  have h1 : (x &&& y) / 2 = (x / 2) &&& (y / 2) := Nat.and_div_two
  have h2 : (x &&& y) % 2 = (x % 2) * (y % 2) := by
    have := Nat.and_mod_two_pow (a := x) (b := y) (n := 1)
    simp only [Nat.pow_one] at this
    rw [this]
    have hx := Nat.mod_lt x (show 0 < 2 by omega)
    have hy := Nat.mod_lt y (show 0 < 2 by omega)
    generalize x % 2 = a at *
    generalize y % 2 = b at *
    have ha : a = 0 ∨ a = 1 := by omega
    have hb : b = 0 ∨ b = 1 := by omega
    rcases ha with rfl | rfl <;> rcases hb with rfl | rfl <;> rfl
  rw [← h2]
  omega
theorem xor3_two (x y z : Nat) : xor3 x y z = 2 * xor3 (x / 2) (y / 2) (z / 2) + (x % 2 + y % 2 + z % 2) % 2 := by
  have h1 := xor_two x y
  have h2 := xor_two (x ^^^ y) z
  have h3 : (x ^^^ y) / 2 = (x / 2) ^^^ (y / 2) := Nat.xor_div_two
  rw [h3] at h2
  unfold xor3
  omega
theorem ch_two (x y z : Nat) : chN x y z = 2 * chN (x / 2) (y / 2) (z / 2) + (if x % 2 = 1 then y % 2 else z % 2) := by
  have a1 := and_two x y
  have a2 := and_two x z
  have d1 : (x &&& y) / 2 = (x / 2) &&& (y / 2) := Nat.and_div_two
  have d2 : (x &&& z) / 2 = (x / 2) &&& (z / 2) := Nat.and_div_two
  have x1 := xor_two z (x &&& z)
  have d3 : (z ^^^ (x &&& z)) / 2 = (z / 2) ^^^ ((x / 2) &&& (z / 2)) := by rw [Nat.xor_div_two, d2]
  have x2 := xor_two (x &&& y) (z ^^^ (x &&& z))
  rw [d1, d3] at x2
  unfold chN
  have hx : x % 2 = 0 ∨ x % 2 = 1 := by omega
  rcases hx with e | e
  · rw [if_neg (by omega)]
    rw [e] at a1 a2
    omega
  · rw [if_pos e]
    rw [e] at a1 a2
    omega
theorem maj_two (x y z : Nat) : majN x y z = 2 * majN (x / 2) (y / 2) (z / 2) + (x % 2 + y % 2 + z % 2) / 2 := by
  have a1 := and_two x y
  have a2 := and_two x z
  have a3 := and_two y z
  have d1 : (x &&& y) / 2 = (x / 2) &&& (y / 2) := Nat.and_div_two
  have d2 : (x &&& z) / 2 = (x / 2) &&& (z / 2) := Nat.and_div_two
  have d3 : (y &&& z) / 2 = (y / 2) &&& (z / 2) := Nat.and_div_two
  have x1 := xor_two (x &&& y) (x &&& z)
  have d4 : ((x &&& y) ^^^ (x &&& z)) / 2 = ((x / 2) &&& (y / 2)) ^^^ ((x / 2) &&& (z / 2)) := by rw [Nat.xor_div_two, d1, d2]
  have x2 := xor_two ((x &&& y) ^^^ (x &&& z)) (y &&& z)
  rw [d4, d3] at x2
  unfold majN
  have hx : x % 2 = 0 ∨ x % 2 = 1 := by omega
  have hy : y % 2 = 0 ∨ y % 2 = 1 := by omega
  have hz : z % 2 = 0 ∨ z % 2 = 1 := by omega
  rcases hx with e | e <;> rcases hy with f | f <;> rcases hz with g | g <;> rw [e, f] at a1 <;> rw [e, g] at a2 <;> rw [f, g] at a3 <;> rw [e, f, g] <;> omega
theorem xor3_zero : xor3 0 0 0 = 0 := rfl
theorem ch_zero : chN 0 0 0 = 0 := rfl
theorem maj_zero : majN 0 0 0 = 0 := rfl
theorem xor_lt {x y : Nat} (hx : x < 4294967296) (hy : y < 4294967296) : x ^^^ y < 4294967296 := Nat.xor_lt_two_pow (n := 32) hx hy
theorem and_lt {x y : Nat} (hx : x < 4294967296) : x &&& y < 4294967296 := Nat.lt_of_le_of_lt Nat.and_le_left hx
theorem xor3_lt {x y z : Nat} (hx : x < 4294967296) (hy : y < 4294967296) (hz : z < 4294967296) : xor3 x y z < 4294967296 := xor_lt (xor_lt hx hy) hz
theorem ch_lt {x y z : Nat} (hx : x < 4294967296) (hy : y < 4294967296) (hz : z < 4294967296) : chN x y z < 4294967296 := xor_lt (and_lt hx) (xor_lt hz (and_lt hx))
theorem maj_lt {x y z : Nat} (hx : x < 4294967296) (hy : y < 4294967296) (hz : z < 4294967296) : majN x y z < 4294967296 := xor_lt (xor_lt (and_lt hx) (and_lt hx)) (and_lt hy)
/-- 'not x and z', among 32 bits. -/
theorem not_and (x z : Nat) (hx : x < 4294967296) (hz : z < 4294967296) : (4294967295 - x) &&& z = z ^^^ (x &&& z) := by
  apply Nat.eq_of_testBit_eq
  intro i
  have h : Nat.testBit (4294967295 - x) i = (decide (i < 32) && !x.testBit i) := by
    have := Nat.testBit_two_pow_sub_succ (x := x) (n := 32) (by simpa using hx) i
    simpa [Nat.sub_sub, Nat.add_comm] using this
  rw [Nat.testBit_and, Nat.testBit_xor, Nat.testBit_and, h]
  by_cases hi : i < 32
  · simp only [hi, decide_true, Bool.true_and]
    cases x.testBit i <;> cases z.testBit i <;> rfl
  · have hzz : z.testBit i = false := Nat.testBit_lt_two_pow (Nat.lt_of_lt_of_le hz (by rw [show (4294967296 : Nat) = 2 ^ 32 from rfl]; exact Nat.pow_le_pow_right (by omega) (by omega)))
    simp [hzz]
def kTab : List Nat := [1116352408, 1899447441, 3049323471, 3921009573, 961987163, 1508970993, 2453635748, 2870763221, 3624381080, 310598401, 607225278, 1426881987, 1925078388, 2162078206, 2614888103, 3248222580, 3835390401, 4022224774, 264347078, 604807628, 770255983, 1249150122, 1555081692, 1996064986, 2554220882, 2821834349, 2952996808, 3210313671, 3336571891, 3584528711, 113926993, 338241895, 666307205, 773529912, 1294757372, 1396182291, 1695183700, 1986661051, 2177026350, 2456956037, 2730485921, 2820302411, 3259730800, 3345764771, 3516065817, 3600352804, 4094571909, 275423344, 430227734, 506948616, 659060556, 883997877, 958139571, 1322822218, 1537002063, 1747873779, 1955562222, 2024104815, 2227730452, 2361852424, 2428436474, 2756734187, 3204031479, 3329325298]
def firstN : List Nat := [106, 9, 230, 103, 187, 103, 174, 133, 60, 110, 243, 114, 165, 79, 245, 58, 81, 14, 82, 127, 155, 5, 104, 140, 31, 131, 217, 171, 91, 224, 205, 25]
def sg0 (x : Nat) : Nat := xor3 (rotrN x 7) (rotrN x 18) (x / 8)
def sg1 (x : Nat) : Nat := xor3 (rotrN x 17) (rotrN x 19) (x / 1024)
def bg0 (x : Nat) : Nat := xor3 (rotrN x 2) (rotrN x 13) (rotrN x 22)
def bg1 (x : Nat) : Nat := xor3 (rotrN x 6) (rotrN x 11) (rotrN x 25)
/-- One word more of the message's words. -/
def schedNext (m : List Nat) : Nat := (sg1 (m.getD (m.length - 2) 0) + m.getD (m.length - 7) 0 + sg0 (m.getD (m.length - 15) 0) + m.getD (m.length - 16) 0) % 4294967296
def schedN : Nat → List Nat → List Nat
  | 0, m => m
  | n + 1, m => schedN n (m ++ [schedNext m])
/-- One round. -/
def roundT1 (v : List Nat) (k m : Nat) : Nat := (v.getD 7 0 + bg1 (v.getD 4 0) + chN (v.getD 4 0) (v.getD 5 0) (v.getD 6 0) + k + m) % 4294967296
def roundT2 (v : List Nat) : Nat := (bg0 (v.getD 0 0) + majN (v.getD 0 0) (v.getD 1 0) (v.getD 2 0)) % 4294967296
def roundN (v : List Nat) (k m : Nat) : List Nat := [(roundT1 v k m + roundT2 v) % 4294967296, v.getD 0 0, v.getD 1 0, v.getD 2 0, (v.getD 3 0 + roundT1 v k m) % 4294967296, v.getD 4 0, v.getD 5 0, v.getD 6 0]
def roundsN (m : List Nat) : Nat → Nat → List Nat → List Nat
  | 0, _, v => v
  | n + 1, t, v => roundsN m n (t + 1) (roundN v (kTab.getD t 0) (m.getD t 0))
def wordN (b : List Nat) (i : Nat) : Nat := ((b.getD (4 * i) 0 * 256 + b.getD (4 * i + 1) 0) * 256 + b.getD (4 * i + 2) 0) * 256 + b.getD (4 * i + 3) 0
def bytesN (x : Nat) : List Nat := [x / 16777216 % 256, x / 65536 % 256, x / 256 % 256, x % 256]
def widthN (w : Int) : Nat := (min (max w 1) 32).toNat
def cutN (w : Int) (h : List Nat) : List Nat := h.take (widthN w) ++ List.replicate (h.length - widthN w) 0
/-- One step of the hash. -/
def compressN (w : Int) (st blk : List Nat) : List Nat :=
  let s := (List.range 8).map (wordN st)
  let v := roundsN (schedN 48 ((List.range 16).map (wordN blk))) 64 0 s
  cutN w ((List.range 8).flatMap fun i => bytesN ((s.getD i 0 + v.getD i 0) % 4294967296))
end Go.Proofs.YtpklkefnmoaaaaaGreatDoor

/- Relations between worlds: what has changed is told by a list of blocks. Nothing of a program. -/
namespace Go.Proofs.YtpklkefnmoaaaaaGreatDoor
open Go.RowKit
set_option linter.unusedVariables false
set_option linter.unusedSimpArgs false

/-- Outside the blocks F nothing that was there has changed. -/
structure Chg (F : List Nat) (w w' : World) : Prop where
  os : w'.os = w.os
  tape : w'.tape = w.tape
  output : w'.output = w.output
  size : w.heap.size ≤ w'.heap.size
  block : ∀ k, k < w.heap.size → k ∉ F → w'.heap[k]? = w.heap[k]?

theorem Chg.refl (F : List Nat) (w : World) : Chg F w w := ⟨rfl, rfl, rfl, Nat.le_refl _, fun _ _ _ => rfl⟩

theorem Chg.trans {F G : List Nat} {a b c : World} (h : Chg F a b) (k : Chg G b c) (hG : ∀ x, x ∈ G → x ∈ F ∨ a.heap.size ≤ x) : Chg F a c :=
  ⟨k.os.trans h.os, k.tape.trans h.tape, k.output.trans h.output, Nat.le_trans h.size k.size,
    fun i hi hF => (k.block i (Nat.lt_of_lt_of_le hi h.size) (fun hg => (hG i hg).elim hF (fun e => by omega))).trans (h.block i hi hF)⟩

theorem Chg.mono {F G : List Nat} {a b : World} (h : Chg F a b) (hG : ∀ x, x ∈ F → x < a.heap.size → x ∈ G) : Chg G a b :=
  ⟨h.os, h.tape, h.output, h.size, fun i hi hg => h.block i hi (fun hf => hg (hG i hf hi))⟩

theorem Chg.nil_trans {F : List Nat} {a b c : World} (h : Chg F a b) (k : Chg [] b c) : Chg F a c := h.trans k (by simp)
theorem Chg.of_nil {F : List Nat} {a b : World} (h : Chg [] a b) : Chg F a b := h.mono (by simp)

theorem Chg.below {a b : World} (h : Chg [] a b) : Below a.heap.size a b := ⟨h.os, h.tape, h.output, h.size, fun k hk => h.block k hk (by simp)⟩
theorem Chg.of_below {F : List Nat} {a b : World} (h : Below a.heap.size a b) : Chg F a b := ⟨h.os, h.tape, h.output, h.size, fun k hk _ => h.block k hk⟩
theorem Chg.of_grown {F : List Nat} {a b : World} {row : Option Nat} (h : a.grownBy b row) (hr : ∀ k, row = some k → k ∈ F ∨ a.heap.size ≤ k) : Chg F a b :=
  ⟨h.os, h.tape, h.output, h.size, fun k hk hF => h.block k hk (fun e => (hr k e.symm).elim hF (fun q => by omega))⟩

theorem Chg.drew {F : List Nat} {a w : World} (h : Chg F a w) : Chg F a w.drew := ⟨h.os, h.tape, h.output, h.size, h.block⟩
theorem Chg.drewN {F : List Nat} {a w : World} (h : Chg F a w) (n : Nat) : Chg F a (w.drewN n) := ⟨h.os, h.tape, h.output, h.size, h.block⟩
theorem Chg.alloc {F : List Nat} {a w : World} (h : Chg F a w) (o : Obj) : Chg F a (w.alloc o) :=
  ⟨h.os, h.tape, h.output, by have := h.size; simp; omega, fun k hk hF => (Below.heap_alloc w o k (by have := h.size; omega)).trans (h.block k hk hF)⟩
theorem Chg.setCell {F : List Nat} {a w : World} (h : Chg F a w) {p : Addr} (hp : p.block ∈ F ∨ a.heap.size ≤ p.block) (u : Value) : Chg F a (w.setCell p u) :=
  ⟨h.os, h.tape, h.output, by have := h.size; simp; omega, fun k hk hF => (heap_setCell_other w p k u (fun e => by subst e; exact hp.elim hF (fun q => by omega))).trans (h.block k hk hF)⟩
theorem Chg.setRow {F : List Nat} {a w : World} (h : Chg F a w) {g : Nat} (hp : g ∈ F ∨ a.heap.size ≤ g) (cs : Array Value) : Chg F a (w.setRow g cs) :=
  ⟨h.os, h.tape, h.output, by have := h.size; simp; omega, fun k hk hF => (setRow_other w g k cs (fun e => by subst e; exact hp.elim hF (fun q => by omega))).trans (h.block k hk hF)⟩

theorem Chg.cell {F : List Nat} {w w' : World} (h : Chg F w w') {p : Addr} (hp : p.block < w.heap.size) (hF : p.block ∉ F) : w'.cell? p = w.cell? p := World.cell?_of_block (w := w) (h.block p.block hp hF)
theorem Chg.frozen {F : List Nat} {w w' : World} (h : Chg F w w') {p : Addr} (hp : p.block < w.heap.size) (hF : p.block ∉ F) : w'.frozen? p = w.frozen? p := World.frozen?_of_block (w := w) (h.block p.block hp hF)
theorem Chg.at {F : List Nat} {w w' : World} (h : Chg F w w') {k : Nat} {o : Obj} (hk : w.heap[k]? = some o) (hF : k ∉ F) : w'.heap[k]? = some o :=
  (h.block k (Array.getElem?_eq_some_iff.1 hk).1 hF).trans hk

/-! A block known whole. -/
theorem blk_lt {w : World} {b : Nat} {o : Obj} (h : w.heap[b]? = some o) : b < w.heap.size := (Array.getElem?_eq_some_iff.1 h).1
theorem blk_cell {w : World} {b : Nat} {cs : Array Value} {t : TypeId} {fr : Nat × Nat} (h : w.heap[b]? = some (.cells cs t fr)) (i : Nat) {v : Value} (hv : cs[i]? = some v) : w.cell? ⟨b, i, none⟩ = some v :=
  (cell_of_row w b i cs t fr h).trans hv
theorem blk_frozen {w : World} {b : Nat} {cs : Array Value} {t : TypeId} (h : w.heap[b]? = some (.cells cs t (0, 0))) (i : Nat) : w.frozen? ⟨b, i, none⟩ = false :=
  frozen_of_row w b i cs t h
theorem blk_set {w : World} {b : Nat} {cs : Array Value} {t : TypeId} (h : w.heap[b]? = some (.cells cs t (0, 0))) (i : Nat) (v : Value) : (w.setCell ⟨b, i, none⟩ v).heap[b]? = some (.cells (cs.setIfInBounds i v) t (0, 0)) :=
  heap_setCell_same w b i cs t v h
theorem blk_far {w : World} {b : Nat} {o : Obj} (h : w.heap[b]? = some o) {a : Addr} (hne : b ≠ a.block) (v : Value) : (w.setCell a v).heap[b]? = some o :=
  (heap_setCell_other w a b v hne).trans h
theorem blk_alloc {w : World} {b : Nat} {o : Obj} (h : w.heap[b]? = some o) (o' : Obj) : (w.alloc o').heap[b]? = some o :=
  (Below.heap_alloc w o' b (blk_lt h)).trans h
theorem blk_drew {w : World} {b : Nat} {o : Obj} (h : w.heap[b]? = some o) : w.drew.heap[b]? = some o := h
theorem blk_drewN {w : World} {b : Nat} {o : Obj} (h : w.heap[b]? = some o) (n : Nat) : (w.drewN n).heap[b]? = some o := h
theorem blk_new (w : World) (o : Obj) : (w.alloc o).heap[w.heap.size]? = some o := heap_alloc_new w o

/-- What a call comes to, with what it changed. -/
def Res (w : World) (F : List Nat) (v : Value) (e : Ending) (w' : World) : Prop := e = .returned v ∧ Chg F w w'
end Go.Proofs.YtpklkefnmoaaaaaGreatDoor

/- The hash: turning right; bits of a number. -/
namespace Go.Proofs.YtpklkefnmoaaaaaGreatDoor
open Go.RowKit
set_option linter.unusedVariables false
set_option linter.unusedSimpArgs false

theorem rotl_calls (x n : Nat) (hx : x < 4294967296) (hn : n ∈ [2, 6, 7, 11, 13, 17, 18, 19, 22, 25]) (w : World) : Calls Tryz.prog 297 #[.int .u32 x, .int .i64 (-(n : Int))] w fun e w' => e = .returned (.int .u32 (rotrN x n)) ∧ w' = w := by
  simp only [List.mem_cons, List.not_mem_nil, or_false] at hn
  rcases hn with rfl | rfl | rfl | rfl | rfl | rfl | rfl | rfl | rfl | rfl
  · have e : bits BinOp.and IntKind.u64 (IntKind.u64.wrap (-2)) 31 = 30 := by decide
    go_enter Tryz.func297, Tryz.ntmps297
    have e2 : bits BinOp.or IntKind.u32 ((x : Int) * 1073741824 % 4294967296) ((x : Int) / 4) = (rotrN x 2 : Nat) := by
      rw [show ((x : Int) * 1073741824 % 4294967296) = ((x * 1073741824 % 4294967296 : Nat) : Int) from by omega, show (x : Int) / 4 = ((x / 4 : Nat) : Int) from by omega, u32_or_nat _ _ (by omega) (by omega)]
      congr 1
      exact rotr_or x 2 hx (by omega)
    have E2 := Lib.hid e2
    clear e2
    go_wp2
    go_ret
    exact ⟨by rw [← E2.out]; rfl, rfl⟩
  · have e : bits BinOp.and IntKind.u64 (IntKind.u64.wrap (-6)) 31 = 26 := by decide
    go_enter Tryz.func297, Tryz.ntmps297
    have e2 : bits BinOp.or IntKind.u32 ((x : Int) * 67108864 % 4294967296) ((x : Int) / 64) = (rotrN x 6 : Nat) := by
      rw [show ((x : Int) * 67108864 % 4294967296) = ((x * 67108864 % 4294967296 : Nat) : Int) from by omega, show (x : Int) / 64 = ((x / 64 : Nat) : Int) from by omega, u32_or_nat _ _ (by omega) (by omega)]
      congr 1
      exact rotr_or x 6 hx (by omega)
    have E2 := Lib.hid e2
    clear e2
    go_wp2
    go_ret
    exact ⟨by rw [← E2.out]; rfl, rfl⟩
  · have e : bits BinOp.and IntKind.u64 (IntKind.u64.wrap (-7)) 31 = 25 := by decide
    go_enter Tryz.func297, Tryz.ntmps297
    have e2 : bits BinOp.or IntKind.u32 ((x : Int) * 33554432 % 4294967296) ((x : Int) / 128) = (rotrN x 7 : Nat) := by
      rw [show ((x : Int) * 33554432 % 4294967296) = ((x * 33554432 % 4294967296 : Nat) : Int) from by omega, show (x : Int) / 128 = ((x / 128 : Nat) : Int) from by omega, u32_or_nat _ _ (by omega) (by omega)]
      congr 1
      exact rotr_or x 7 hx (by omega)
    have E2 := Lib.hid e2
    clear e2
    go_wp2
    go_ret
    exact ⟨by rw [← E2.out]; rfl, rfl⟩
  · have e : bits BinOp.and IntKind.u64 (IntKind.u64.wrap (-11)) 31 = 21 := by decide
    go_enter Tryz.func297, Tryz.ntmps297
    have e2 : bits BinOp.or IntKind.u32 ((x : Int) * 2097152 % 4294967296) ((x : Int) / 2048) = (rotrN x 11 : Nat) := by
      rw [show ((x : Int) * 2097152 % 4294967296) = ((x * 2097152 % 4294967296 : Nat) : Int) from by omega, show (x : Int) / 2048 = ((x / 2048 : Nat) : Int) from by omega, u32_or_nat _ _ (by omega) (by omega)]
      congr 1
      exact rotr_or x 11 hx (by omega)
    have E2 := Lib.hid e2
    clear e2
    go_wp2
    go_ret
    exact ⟨by rw [← E2.out]; rfl, rfl⟩
  · have e : bits BinOp.and IntKind.u64 (IntKind.u64.wrap (-13)) 31 = 19 := by decide
    go_enter Tryz.func297, Tryz.ntmps297
    have e2 : bits BinOp.or IntKind.u32 ((x : Int) * 524288 % 4294967296) ((x : Int) / 8192) = (rotrN x 13 : Nat) := by
      rw [show ((x : Int) * 524288 % 4294967296) = ((x * 524288 % 4294967296 : Nat) : Int) from by omega, show (x : Int) / 8192 = ((x / 8192 : Nat) : Int) from by omega, u32_or_nat _ _ (by omega) (by omega)]
      congr 1
      exact rotr_or x 13 hx (by omega)
    have E2 := Lib.hid e2
    clear e2
    go_wp2
    go_ret
    exact ⟨by rw [← E2.out]; rfl, rfl⟩
  · have e : bits BinOp.and IntKind.u64 (IntKind.u64.wrap (-17)) 31 = 15 := by decide
    go_enter Tryz.func297, Tryz.ntmps297
    have e2 : bits BinOp.or IntKind.u32 ((x : Int) * 32768 % 4294967296) ((x : Int) / 131072) = (rotrN x 17 : Nat) := by
      rw [show ((x : Int) * 32768 % 4294967296) = ((x * 32768 % 4294967296 : Nat) : Int) from by omega, show (x : Int) / 131072 = ((x / 131072 : Nat) : Int) from by omega, u32_or_nat _ _ (by omega) (by omega)]
      congr 1
      exact rotr_or x 17 hx (by omega)
    have E2 := Lib.hid e2
    clear e2
    go_wp2
    go_ret
    exact ⟨by rw [← E2.out]; rfl, rfl⟩
  · have e : bits BinOp.and IntKind.u64 (IntKind.u64.wrap (-18)) 31 = 14 := by decide
    go_enter Tryz.func297, Tryz.ntmps297
    have e2 : bits BinOp.or IntKind.u32 ((x : Int) * 16384 % 4294967296) ((x : Int) / 262144) = (rotrN x 18 : Nat) := by
      rw [show ((x : Int) * 16384 % 4294967296) = ((x * 16384 % 4294967296 : Nat) : Int) from by omega, show (x : Int) / 262144 = ((x / 262144 : Nat) : Int) from by omega, u32_or_nat _ _ (by omega) (by omega)]
      congr 1
      exact rotr_or x 18 hx (by omega)
    have E2 := Lib.hid e2
    clear e2
    go_wp2
    go_ret
    exact ⟨by rw [← E2.out]; rfl, rfl⟩
  · have e : bits BinOp.and IntKind.u64 (IntKind.u64.wrap (-19)) 31 = 13 := by decide
    go_enter Tryz.func297, Tryz.ntmps297
    have e2 : bits BinOp.or IntKind.u32 ((x : Int) * 8192 % 4294967296) ((x : Int) / 524288) = (rotrN x 19 : Nat) := by
      rw [show ((x : Int) * 8192 % 4294967296) = ((x * 8192 % 4294967296 : Nat) : Int) from by omega, show (x : Int) / 524288 = ((x / 524288 : Nat) : Int) from by omega, u32_or_nat _ _ (by omega) (by omega)]
      congr 1
      exact rotr_or x 19 hx (by omega)
    have E2 := Lib.hid e2
    clear e2
    go_wp2
    go_ret
    exact ⟨by rw [← E2.out]; rfl, rfl⟩
  · have e : bits BinOp.and IntKind.u64 (IntKind.u64.wrap (-22)) 31 = 10 := by decide
    go_enter Tryz.func297, Tryz.ntmps297
    have e2 : bits BinOp.or IntKind.u32 ((x : Int) * 1024 % 4294967296) ((x : Int) / 4194304) = (rotrN x 22 : Nat) := by
      rw [show ((x : Int) * 1024 % 4294967296) = ((x * 1024 % 4294967296 : Nat) : Int) from by omega, show (x : Int) / 4194304 = ((x / 4194304 : Nat) : Int) from by omega, u32_or_nat _ _ (by omega) (by omega)]
      congr 1
      exact rotr_or x 22 hx (by omega)
    have E2 := Lib.hid e2
    clear e2
    go_wp2
    go_ret
    exact ⟨by rw [← E2.out]; rfl, rfl⟩
  · have e : bits BinOp.and IntKind.u64 (IntKind.u64.wrap (-25)) 31 = 7 := by decide
    go_enter Tryz.func297, Tryz.ntmps297
    have e2 : bits BinOp.or IntKind.u32 ((x : Int) * 128 % 4294967296) ((x : Int) / 33554432) = (rotrN x 25 : Nat) := by
      rw [show ((x : Int) * 128 % 4294967296) = ((x * 128 % 4294967296 : Nat) : Int) from by omega, show (x : Int) / 33554432 = ((x / 33554432 : Nat) : Int) from by omega, u32_or_nat _ _ (by omega) (by omega)]
      congr 1
      exact rotr_or x 25 hx (by omega)
    have E2 := Lib.hid e2
    clear e2
    go_wp2
    go_ret
    exact ⟨by rw [← E2.out]; rfl, rfl⟩
theorem rotr_calls (x n : Nat) (hx : x < 4294967296) (hn : n ∈ [2, 6, 7, 11, 13, 17, 18, 19, 22, 25]) (w : World) : Calls Tryz.prog 269 #[.int .u32 x, .int .i64 n] w fun e w' => e = .returned (.int .u32 (rotrN x n)) ∧ w' = w := by
  have h := rotl_calls x n hx hn w
  have hb : n ≤ 25 := by
    simp only [List.mem_cons, List.not_mem_nil, or_false] at hn
    omega
  go_enter Tryz.func269, Tryz.ntmps269
  go_wp2_with (go_at_call 297; refine h.mono ?_; rintro e w1 ⟨rfl, hw1⟩; obtain rfl : w = w1 := hw1.symm)
  go_ret
  exact ⟨rfl, rfl⟩
theorem two_lt (n : Nat) (h : n ≤ 63) : 2 ^ n < 18446744073709551616 := Nat.lt_of_le_of_lt (Nat.pow_le_pow_right (by omega) h) (by decide)
theorem mask_calls (n : Nat) (hn : 1 ≤ n) (h2 : n ≤ 64) (w : World) : Calls Tryz.prog 105 #[.int .i64 n] w fun e w' => e = .returned (.int .u64 (2 ^ n - 1 : Nat)) ∧ w' = w := by
  have hp : 2 ^ n ≤ 18446744073709551616 := Nat.le_trans (Nat.pow_le_pow_right (by omega) h2) (by decide)
  have h0 := Nat.two_pow_pos n
  have e : IntKind.u64.wrap (IntKind.u64.wrap ((2 : Int) ^ n) - 1) = ((2 ^ n - 1 : Nat) : Int) := by
    rw [IntKind.wrap_u64, IntKind.wrap_u64, show ((2 : Int) ^ n) = ((2 ^ n : Nat) : Int) from by simp]
    omega
  have E := Lib.hid e
  clear e hp h0
  go_enter Tryz.func105, Tryz.ntmps105
  go_wp2
  go_ret
  exact ⟨by rw [← E.out]; rfl, rfl⟩
theorem shr_calls (x n : Nat) (hx : x < 18446744073709551616) (h2 : n ≤ 63) (w : World) : Calls Tryz.prog 270 #[.int .u64 x, .int .i64 n] w fun e w' => e = .returned (.int .u64 (x / 2 ^ n : Nat)) ∧ w' = w := by
  have e : ((x : Int) / 2 ^ n) = ((x / 2 ^ n : Nat) : Int) := by simp
  have E := Lib.hid e
  clear e
  go_enter Tryz.func270, Tryz.ntmps270
  go_wp2
  go_ret
  exact ⟨by rw [← E.out]; rfl, rfl⟩
theorem field_calls (x s n : Nat) (hx : x < 18446744073709551616) (hs : s ≤ 63) (hn : 1 ≤ n) (h2 : n ≤ 63) (w : World) : Calls Tryz.prog 240 #[.int .u64 x, .int .i64 s, .int .i64 n] w fun e w' => e = .returned (.int .u64 (x / 2 ^ s % 2 ^ n : Nat)) ∧ w' = w := by
  have h1 := shr_calls x s hx hs w
  have h3 := mask_calls n hn (by omega) w
  have hp := two_lt n h2
  have hd : x / 2 ^ s ≤ x := Nat.div_le_self _ _
  have e : bits BinOp.and IntKind.u64 ((x / 2 ^ s : Nat) : Int) ((2 ^ n - 1 : Nat) : Int) = ((x / 2 ^ s % 2 ^ n : Nat) : Int) := by
    rw [u64_and_nat _ _ (by omega) (by omega), Nat.and_two_pow_sub_one_eq_mod]
  have E := Lib.hid e
  clear e hp hd
  generalize x / 2 ^ s = y at *
  generalize 2 ^ n = z at *
  go_enter Tryz.func240, Tryz.ntmps240
  go_wp2_with fail
  go_at_call 270
  refine h1.mono ?_
  rintro e w1 ⟨rfl, hw1⟩
  obtain rfl : w = w1 := hw1.symm
  go_wp2_with (go_at_call 105; refine h3.mono ?_; rintro e w2 ⟨rfl, hw2⟩; obtain rfl : w = w2 := hw2.symm)
  go_ret
  exact ⟨by rw [← E.out]; rfl, rfl⟩

/-- Bytes as a number, the highest first. -/
def fromN (l : List Nat) : Nat := l.foldl (fun x c => x * 256 + c) 0
theorem from_snoc (l : List Nat) (c : Nat) : fromN (l ++ [c]) = fromN l * 256 + c := by simp [fromN]
theorem from_go : ∀ (l : List Nat) (acc k : Nat), (∀ c ∈ l, c < 256) → acc < 256 ^ k → l.foldl (fun x c => x * 256 + c) acc < 256 ^ (k + l.length)
  | [], acc, k, _, h => by simpa using h
  | c :: l, acc, k, hb, h => by
    have hc := hb c (by simp)
    have := from_go l (acc * 256 + c) (k + 1) (fun x hx => hb x (by simp [hx])) (by rw [Nat.pow_succ]; omega)
    rw [List.foldl_cons, List.length_cons, show k + (l.length + 1) = k + 1 + l.length from by omega]
    exact this
theorem from_lt (l : List Nat) (hb : ∀ c ∈ l, c < 256) : fromN l < 256 ^ l.length := by
  have := from_go l 0 0 hb (by simp)
  rwa [Nat.zero_add] at this
theorem from_calls (w : World) (b o cap : Nat) (l : List Nat) (hl : l.length ≤ 7) (hb : ∀ c ∈ l, c < 256) (hc : ∀ j (h : j < l.length), w.cell? ⟨b, o + j, none⟩ = some (.int .u8 l[j])) :
    Calls Tryz.prog 296 #[.slice (some ⟨b, o, none⟩) l.length cap] w fun e w' => e = .returned (.tuple #[.int .u64 (fromN l), .int .i64 0]) ∧ w' = w := by
  go_enter Tryz.func296, Tryz.ntmps296
  go_wp2
  go_loopg [4, 12] l.length (fun g xx ii wx => ∃ i : Nat, i ≤ l.length ∧ g = l.length - i ∧ ii = .int .i64 i ∧ xx = .int .u64 (fromN (l.take i)) ∧ wx = w)
  case atStart => exact ⟨0, by omega, by omega, rfl, rfl, rfl⟩
  case round =>
    obtain ⟨i, hi, hgi, rfl, rfl, rfl⟩ := hrel
    by_cases hlt : i < l.length
    · have hlt' : i < l.length := hlt
      have y := hc i hlt'
      have hyl := World.block_lt_of_cell? _ _ y
      have hcb := hb l[i] (List.getElem_mem hlt')
      have hlt2 : fromN (l.take i) < 256 ^ 6 := by
        have h1 := from_lt (l.take i) (fun c hc => hb c (List.mem_of_mem_take hc))
        have h2 : 256 ^ (l.take i).length ≤ 256 ^ 6 := Nat.pow_le_pow_right (by omega) (by rw [List.length_take]; omega)
        omega
      have hnext : fromN (l.take (i + 1)) = fromN (l.take i) * 256 + l[i] := by rw [List.take_succ_eq_append_getElem hlt', from_snoc]
      have HN := Lib.hid hnext
      clear hnext hc hb
      generalize l[i] = c at *
      generalize fromN (l.take i) = x at *
      have hx : x < 281474976710656 := hlt2
      clear hlt2
      have e : bits BinOp.or IntKind.u64 ((x : Int) * 256) (c : Int) = ((x * 256 + c : Nat) : Int) := by
        rw [show (x : Int) * 256 = ((x * 256 : Nat) : Int) from by omega, u64_or_nat _ _ (by omega) (by omega)]
        congr 1
        have := Nat.two_pow_add_eq_or_of_lt (i := 8) (b := c) hcb x
        rw [show x * 256 = 2 ^ 8 * x from by omega, ← this]
      have E := Lib.hid e
      clear e
      go_wp2
      go_roundg (l.length - (i + 1))
      case measure => omega
      case rel => exact ⟨i + 1, by omega, rfl, by go_num, by rw [HN.out, ← E.out], rfl⟩
    · obtain rfl : i = l.length := by omega
      rw [List.take_length]
      go_wp2
      go_ret2
      exact ⟨rfl, rfl⟩
end Go.Proofs.YtpklkefnmoaaaaaGreatDoor

/- The hash: a word of bytes; a number in bytes. -/
namespace Go.Proofs.YtpklkefnmoaaaaaGreatDoor
open Go.RowKit
set_option linter.unusedVariables false
set_option linter.unusedSimpArgs false

theorem word_from (B : List Nat) (i : Nat) : wordN B i = fromN [B.getD (4 * i) 0, B.getD (4 * i + 1) 0, B.getD (4 * i + 2) 0, B.getD (4 * i + 3) 0] := by
  simp [wordN, fromN]
theorem word_lt (B : List Nat) (i : Nat) (hb : ∀ j, B.getD j 0 < 256) : wordN B i < 4294967296 := by
  have h0 := hb (4 * i)
  have h1 := hb (4 * i + 1)
  have h2 := hb (4 * i + 2)
  have h3 := hb (4 * i + 3)
  unfold wordN
  omega
theorem word_calls (w : World) (b o n cap : Nat) (B : List Nat) (i : Nat) (hi : 4 * i + 4 ≤ n) (hn : n ≤ cap) (hcap : cap ≤ 1000000) (hb : ∀ j, B.getD j 0 < 256) (hc : ∀ j, j < n → w.cell? ⟨b, o + j, none⟩ = some (.int .u8 (B.getD j 0))) :
    Calls Tryz.prog 268 #[.slice (some ⟨b, o, none⟩) n cap, .int .i64 i] w fun e w' => e = .returned (.int .u32 (wordN B i)) ∧ w' = w := by
  have hl := word_lt B i hb
  have hf := word_from B i
  have hcall := from_calls w b (o + 4 * i) (cap - 4 * i) [B.getD (4 * i) 0, B.getD (4 * i + 1) 0, B.getD (4 * i + 2) 0, B.getD (4 * i + 3) 0] (by simp) (by
    intro c hcm
    simp only [List.mem_cons, List.not_mem_nil, or_false] at hcm
    rcases hcm with rfl | rfl | rfl | rfl <;> exact hb _) (by
    intro j hj
    have e0 := hc (4 * i) (by omega)
    have e1 := hc (4 * i + 1) (by omega)
    have e2 := hc (4 * i + 2) (by omega)
    have e3 := hc (4 * i + 3) (by omega)
    match j, hj with
    | 0, _ => exact e0
    | 1, _ => rw [show o + 4 * i + 1 = o + (4 * i + 1) from by omega]; exact e1
    | 2, _ => rw [show o + 4 * i + 2 = o + (4 * i + 2) from by omega]; exact e2
    | 3, _ => rw [show o + 4 * i + 3 = o + (4 * i + 3) from by omega]; exact e3
    | j + 4, h => simp at h; omega)
  rw [← hf] at hcall
  simp only [List.length_cons, List.length_nil] at hcall
  clear hf hc hb
  generalize wordN B i = x at *
  go_enter Tryz.func268, Tryz.ntmps268
  go_wp2_with (go_at_call 296; refine hcall.mono ?_; rintro e w1 ⟨rfl, hw1⟩; obtain rfl : w = w1 := hw1.symm)
  go_ret
  exact ⟨rfl, rfl⟩
theorem u_bytes : Tryz.prog.underlying 37 = some (.slice 5) := by kernel_rfl
theorem i_u8 : (Tryz.prog.info? 5).map (fun i => (i.zero, i.size, i.bytes)) = some (some (.int .u8 0), 1, 1) := by kernel_rfl
theorem infoOfB {P : Program} {t : TypeId} {z : Value} {n k : Nat} (h : (P.info? t).map (fun i => (i.zero, i.size, i.bytes)) = some (some z, n, k)) : ∃ i, P.info? t = some i ∧ i.zero = some z ∧ i.size = n ∧ i.bytes = k := by
  cases hi : P.info? t with
  | none => simp [hi] at h
  | some i => simp [hi] at h; exact ⟨i, rfl, h⟩
theorem make_bytes (j : Nat) (hj : j ≤ 100000) (w : World) : (Instr.makeSlice 37 (.int .i64 j) (.int .i64 j)).run Tryz.prog w = .ok (.slice (some ⟨w.heap.size, 0, none⟩) j j) (w.alloc (.cells (madeCells #[.int .u8 0] j) 5)) := by
  obtain ⟨i, hi, hz, hs, hb⟩ := infoOfB i_u8
  have := run_make (P := Tryz.prog) w 37 5 i _ u_bytes hi hz .i64 .i64 j j (by omega) (by omega) (by rw [hb]; omega) (by omega)
  rw [hs, Nat.mul_one] at this
  exact this
theorem high_clear (x y n : Nat) (hx : x < 2 ^ n) (hy : y % 2 ^ n = 0) : x &&& y = 0 := by
  have h1 : (x &&& y) % 2 ^ n = 0 := by rw [Nat.and_mod_two_pow, hy, Nat.and_zero]
  have h2 : x &&& y ≤ x := Nat.and_le_left
  rw [Nat.mod_eq_of_lt (by omega)] at h1
  exact h1
/-- A number in n bytes: the block's cells. -/
structure BigIs (w : World) (b n x : Nat) (i : Nat) : Prop where
  ex : ∃ cs : Array Value, w.heap[b]? = some (.cells cs 5 (0, 0)) ∧ cs.size = n ∧ ∀ k, k < i → cs[n - 1 - k]? = some (.int .u8 (x / 2 ^ (8 * k) % 256 : Nat))
theorem BigIs.step {w : World} {b n x i : Nat} (h : BigIs w b n x i) (hi : i < n) : BigIs (w.setCell ⟨b, n - 1 - i, none⟩ (.int .u8 (x / 2 ^ (8 * i) % 256 : Nat))) b n x (i + 1) := by
  obtain ⟨cs, h1, h2, h3⟩ := h.ex
  refine ⟨_, blk_set h1 _ _, by simpa using h2, fun k hk => ?_⟩
  rw [Array.getElem?_setIfInBounds]
  by_cases e : k = i
  · subst e
    rw [if_pos rfl, if_pos (by omega)]
  · rw [if_neg (by omega)]
    exact h3 k (by omega)
set_option maxRecDepth 100000 in
theorem big_calls (w : World) (x n : Nat) (hn : n = 4 ∨ n = 8) (hx : x < 2 ^ (8 * n)) :
    Calls Tryz.prog 211 #[.int .u64 x, .int .i64 n] w fun e w' => e = .returned (.tuple #[.slice (some ⟨w.heap.size, 0, none⟩) n n, .int .i64 0]) ∧ BigIs w' w.heap.size n x n ∧ Chg [] w w' := by
  have hx2 : x < 18446744073709551616 := Nat.lt_of_lt_of_le hx (Nat.le_trans (Nat.pow_le_pow_right (by omega) (by omega : 8 * n ≤ 64)) (by decide))
  have hm := mask_calls (8 * n) (by omega) (by omega) w
  have hmk := make_bytes n (by omega)
  have hmz : (madeCells #[.int .u8 0] n).size = n := size_madeCells _ _
  have hp : 2 ^ (8 * n) ≤ 18446744073709551616 := Nat.le_trans (Nat.pow_le_pow_right (by omega) (by omega : 8 * n ≤ 64)) (by decide)
  have h0 : 0 < 2 ^ (8 * n) := Nat.two_pow_pos _
  have he : bits BinOp.andNot IntKind.u64 (x : Int) ((2 ^ (8 * n) - 1 : Nat) : Int) = 0 := by
    rw [u64_andNot_nat _ _ hx2 (by omega)]
    have := high_clear x (18446744073709551615 - (2 ^ (8 * n) - 1)) (8 * n) hx (by
      rcases hn with rfl | rfl <;> decide)
    rw [this]
    rfl
  have hf := fun i (hi : i < n) w => field_calls x (8 * i) 8 hx2 (by omega) (by omega) (by omega) w
  have hn8 : n ≤ 8 := by omega
  have HE := Lib.hid he
  clear hx hp h0 he
  generalize 2 ^ (8 * n) - 1 = mk at *
  generalize madeCells #[.int .u8 0] n = cs0 at *
  rw [show ((8 * n : Nat) : Int) = 8 * (n : Int) from by omega] at hm
  have he2 := HE.out
  go_enter Tryz.func211, Tryz.ntmps211
  go_wp2_with (go_at_call 105; refine hm.mono ?_; rintro e w1 ⟨rfl, hw1⟩; obtain rfl : w = w1 := hw1.symm)
  have hB0 : BigIs (w.alloc (.cells cs0 5)) w.heap.size n x 0 := ⟨⟨cs0, blk_new w _, hmz, fun k hk => by omega⟩⟩
  have hc0 : Chg [] w (w.alloc (.cells cs0 5)) := (Chg.refl _ _).alloc _
  clear hmk hm
  generalize World.alloc w _ = w1 at *
  obtain ⟨b, hb⟩ : ∃ b, b = w.heap.size := ⟨_, rfl⟩
  rw [← hb] at hB0 ⊢
  have HB := Lib.hid hb
  clear hb
  go_loopg [26] n (fun g ii wx => ∃ i : Nat, i ≤ n ∧ g = n - i ∧ ii = .int .i64 i ∧ BigIs wx b n x i ∧ Chg [] w wx)
  case atStart => exact ⟨0, by omega, by omega, rfl, hB0, hc0⟩
  case round =>
    clear hB0 hc0
    obtain ⟨i, hi, hgi, rfl, hB, hcw⟩ := hrel
    by_cases hlt : i < n
    · have hlt' : i < n := hlt
      obtain ⟨cs, h1, h2, h3⟩ := hB.ex
      have hfl := hf i hlt' wr
      rw [show ((8 * i : Nat) : Int) = 8 * (i : Int) from by omega, show (((8 : Nat)) : Int) = 8 from rfl] at hfl
      have hst := hB.step hlt'
      obtain ⟨old, hold⟩ : ∃ old, cs[n - 1 - i]? = some old := ⟨_, Array.getElem?_eq_getElem (by omega)⟩
      have hcl := blk_cell h1 (n - 1 - i) hold
      have hfz := blk_frozen h1 (n - 1 - i)
      have hbl := blk_lt h1
      have hidx : ((n : Int) - 1 - i).toNat = n - 1 - i := by omega
      have hy : x / 2 ^ (8 * i) % 2 ^ 8 < 256 := Nat.mod_lt _ (by decide)
      rw [show (256 : Nat) = 2 ^ 8 from rfl] at hst
      have HST := Lib.hid hst
      have hcs := hcw.setCell (p := ⟨b, n - 1 - i, none⟩) (.inr (by rw [HB.out]; exact Nat.le_refl _)) (.int .u8 (x / 2 ^ (8 * i) % 2 ^ 8 : Nat))
      clear hB h1 h2 h3 hf hst hold
      generalize x / 2 ^ (8 * i) % 2 ^ 8 = y at *
      go_wp2_with (go_at_call 240; refine hfl.mono ?_; rintro e w3 ⟨rfl, hw3⟩; obtain rfl : wr = w3 := hw3.symm)
      go_roundg (n - (i + 1))
      case measure => omega
      case rel => exact ⟨i + 1, by omega, rfl, by go_num, HST.out, hcs⟩
    · obtain rfl : i = n := by omega
      go_wp2
      go_ret2
      rw [← HB.out]
      exact ⟨rfl, hB, hcw⟩
end Go.Proofs.YtpklkefnmoaaaaaGreatDoor

/- Maps as lists of keys and values, in the order of their entries; what lookup, update, delete and len do. Nothing of a program. -/
namespace Go.Proofs.YtpklkefnmoaaaaaGreatDoor
open Go.RowKit
set_option linter.unusedVariables false
set_option linter.unusedSimpArgs false

/-- Keys of type kt are told apart by what they are. -/
structure KeyEnc {K : Type} [DecidableEq K] (P : Program) (kt : TypeId) (enc : K → Value) : Prop where
  desc : ∃ d, P.underlying kt = some d ∧ ∀ a b, Instr.sameNow d (enc a) (enc b) = none ∨ Instr.sameNow d (enc a) (enc b) = some (decide (a = b))
  eq : ∀ a b w, (Op.equal kt (enc a) (enc b)).run P w = .ok (decide (a = b)) w
  chk : ∀ e a w, (Instr.checkKey e 10000 kt (enc a)).run P w = .ok () w
  bits : ∀ a, Instr.sameBits 10000 (enc a) (enc a) = true
  inj : ∀ a b, enc a = enc b → a = b

section
variable {K : Type} [DecidableEq K]

def mget (m : List (K × Value)) (a : K) : Option Value := (m.find? (fun x => decide (x.1 = a))).map (·.2)
def mput (m : List (K × Value)) (a : K) (v : Value) : List (K × Value) :=
  if (mget m a).isSome then m.map (fun x => if x.1 = a then (a, v) else x) else m ++ [(a, v)]
def mdel (m : List (K × Value)) (a : K) : List (K × Value) := m.filter (fun x => decide (x.1 ≠ a))

/-- Block b is a map with these keys and values. -/
def MapIs (enc : K → Value) (w : World) (b : Nat) (m : List (K × Value)) : Prop :=
  ∃ es clock, w.heap[b]? = some (.map es clock) ∧ es.toList.map (fun e => (e.key, e.val)) = m.map (fun x => (enc x.1, x.2)) ∧ (m.map (·.1)).Nodup ∧
    (es.toList.map (·.born)).Nodup ∧ ∀ e ∈ es.toList, e.born < clock

omit [DecidableEq K] in
theorem MapIs.lt {enc : K → Value} {w : World} {b : Nat} {m : List (K × Value)} (h : MapIs enc w b m) : b < w.heap.size := by
  obtain ⟨es, clock, hb, _⟩ := h; exact blk_lt hb
omit [DecidableEq K] in
theorem MapIs.chg {enc : K → Value} {w w' : World} {b : Nat} {m : List (K × Value)} {F : List Nat} (h : MapIs enc w b m) (hc : Chg F w w') (hF : b ∉ F) : MapIs enc w' b m := by
  obtain ⟨es, clock, hb, h⟩ := h; exact ⟨es, clock, hc.at hb hF, h⟩
omit [DecidableEq K] in
theorem MapIs.new (enc : K → Value) (w : World) : MapIs enc (w.alloc (.map #[] 0)) w.heap.size [] := ⟨#[], 0, blk_new w _, rfl, by simp, by simp, by simp⟩

def findIn (a : K) : List (K × Value) → Nat → Option (Nat × Value)
  | [], _ => none
  | x :: t, i => if a = x.1 then some (i, x.2) else findIn a t (i + 1)

theorem map_eraseIdx' {α β : Type} (f : α → β) : ∀ (l : List α) (i : Nat), (l.eraseIdx i).map f = (l.map f).eraseIdx i := by
  intro l
  induction l with
  | nil => intro i; rfl
  | cons x l ih => intro i; cases i with
    | zero => rfl
    | succ i => simp [ih]

theorem findIn_get (a : K) : ∀ (m : List (K × Value)) (i : Nat), (findIn a m i).map (·.2) = mget m a := by
  intro m
  induction m with
  | nil => intro i; rfl
  | cons x t ih =>
    intro i
    by_cases h : a = x.1
    · simp [findIn, mget, List.find?_cons, h]
    · have h' : ¬ x.1 = a := fun e => h e.symm
      have := ih (i + 1)
      simp only [mget] at this ⊢
      simp [findIn, h, List.find?_cons, h', this]

theorem findIn_some (a : K) : ∀ (m : List (K × Value)) (i j : Nat) (v : Value), findIn a m i = some (j, v) → ∃ k, j = i + k ∧ m[k]? = some (a, v) := by
  intro m
  induction m with
  | nil => intro i j v h; simp [findIn] at h
  | cons x t ih =>
    intro i j v h
    by_cases hx : a = x.1
    · rw [findIn, if_pos hx] at h
      simp at h
      exact ⟨0, by omega, by simp [hx, ← h.2]⟩
    · rw [findIn, if_neg hx] at h
      obtain ⟨k, hk, hm⟩ := ih _ _ _ h
      exact ⟨k + 1, by omega, by simpa using hm⟩

theorem findIn_none (a : K) : ∀ (m : List (K × Value)) (i : Nat), findIn a m i = none → ∀ x ∈ m, x.1 ≠ a := by
  intro m
  induction m with
  | nil => intro i _ x hx; simp at hx
  | cons y t ih =>
    intro i h x hx
    by_cases hy : a = y.1
    · rw [findIn, if_pos hy] at h; simp at h
    · rw [findIn, if_neg hy] at h
      rcases List.mem_cons.1 hx with rfl | hx
      · exact fun e => hy e.symm
      · exact ih _ h x hx

variable {P : Program} {kt : TypeId} {enc : K → Value}

theorem run_findAsking (E : KeyEnc P kt enc) (a : K) (w : World) : ∀ (es : List MapEntry) (m : List (K × Value)) (i : Nat), es.map (fun e => (e.key, e.val)) = m.map (fun x => (enc x.1, x.2)) →
    (Instr.findAsking kt (enc a) es i).run P w = .ok (findIn a m i) w := by
  intro es
  induction es with
  | nil => intro m i h; cases m with
    | nil => rfl
    | cons _ _ => simp at h
  | cons e es ih =>
    intro m i h
    cases m with
    | nil => simp at h
    | cons x t =>
      simp only [List.map_cons, List.cons.injEq, Prod.mk.injEq] at h
      obtain ⟨⟨hk, hv⟩, ht⟩ := h
      unfold Instr.findAsking
      simp only [Sem.run_bind, hk, E.eq a x.1 w, Result.andThen_ok]
      by_cases hx : a = x.1
      · simp [hx, findIn, hv]
      · simp [hx, findIn, ih t (i + 1) ht]

theorem findNow_or {d : TypeDesc} (hd : ∀ a b, Instr.sameNow d (enc a) (enc b) = none ∨ Instr.sameNow d (enc a) (enc b) = some (decide (a = b))) (a : K) :
    ∀ (es : List MapEntry) (m : List (K × Value)) (i : Nat), es.map (fun e => (e.key, e.val)) = m.map (fun x => (enc x.1, x.2)) →
    Instr.findNow d (enc a) es i = none ∨ Instr.findNow d (enc a) es i = some (findIn a m i) := by
  intro es
  induction es with
  | nil => intro m i h; cases m with
    | nil => exact .inr rfl
    | cons _ _ => simp at h
  | cons e es ih =>
    intro m i h
    cases m with
    | nil => simp at h
    | cons x t =>
      simp only [List.map_cons, List.cons.injEq, Prod.mk.injEq] at h
      obtain ⟨⟨hk, hv⟩, ht⟩ := h
      unfold Instr.findNow
      rw [hk]
      rcases hd a x.1 with h0 | h0
      · left; rw [h0]
      · rw [h0]
        by_cases hx : a = x.1
        · right; simp [hx, findIn, hv]
        · simpa [hx, findIn] using ih t (i + 1) ht

theorem run_findKey (E : KeyEnc P kt enc) (a : K) (w : World) (es : List MapEntry) (m : List (K × Value)) (h : es.map (fun e => (e.key, e.val)) = m.map (fun x => (enc x.1, x.2))) :
    (Instr.findKey kt (enc a) es).run P w = .ok (findIn a m 0) w := by
  obtain ⟨d, hd, hs⟩ := E.desc
  unfold Instr.findKey
  simp only [Sem.run_bind, run_underlying hd w, Result.andThen_ok]
  rcases findNow_or hs a es m 0 h with h0 | h0
  · rw [h0]; exact run_findAsking E a w es m 0 h
  · rw [h0]; rfl

variable {t et : TypeId} {z : Value} {w : World} {b : Nat} {m : List (K × Value)}

theorem MapIs.look (h : MapIs enc w b m) (E : KeyEnc P kt enc) (ht : P.underlying t = some (.map kt et)) (hz : ∀ w, (zeroValue et).run P w = .ok z w) (a : K) (c : Bool) :
    (Instr.lookup t (.map (some b)) (enc a) c).run P w = .ok (if c then .tuple #[(mget m a).getD z, .bool (mget m a).isSome] else (mget m a).getD z) w := by
  obtain ⟨es, clock, hb, hm, hn, _⟩ := h
  have hg : ∀ r, findIn a m 0 = r → mget m a = r.map (·.2) := fun r hr => by rw [← findIn_get a m 0, hr]
  unfold Instr.lookup
  simp only [Sem.run_bind, run_underlying ht w, Result.andThen_ok]
  have hget : (getObj b).run P w = .ok (.map es clock) w := by
    unfold getObj
    simp only [Sem.run, hb]
  simp only [hget, Result.andThen_ok, Sem.run_bind, Sem.run_pure, E.chk, run_findKey E a w es.toList m hm]
  cases hf : findIn a m 0 with
  | none => simp [hz, hg _ hf]
  | some x => cases x; simp [hg _ hf]

theorem look_nil (E : KeyEnc P kt enc) (ht : P.underlying t = some (.map kt et)) (hz : ∀ w, (zeroValue et).run P w = .ok z w) (a : K) (c : Bool) :
    (Instr.lookup t (.map none) (enc a) c).run P w = .ok (if c then .tuple #[z, .bool false] else z) w := by
  unfold Instr.lookup
  simp only [Sem.run_bind, run_underlying ht w, Result.andThen_ok, Sem.run_pure, E.chk, run_findKey E a w [] [] rfl]
  simp [findIn, hz]

theorem mget_put (m : List (K × Value)) (a a' : K) (v : Value) : mget (mput m a v) a' = if a' = a then some v else mget m a' := by
  unfold mput
  split
  · rename_i hs
    by_cases h : a' = a
    · subst h
      rw [if_pos rfl]
      unfold mget at hs ⊢
      induction m with
      | nil => simp at hs
      | cons x l ih =>
        by_cases hx : x.1 = a'
        · simp [List.find?_cons, hx]
        · simp only [List.map_cons, hx, if_false, List.find?_cons, decide_false] at hs ⊢
          exact ih hs
    · rw [if_neg h]
      unfold mget
      induction m with
      | nil => rfl
      | cons x l ih =>
        by_cases hs' : (mget l a).isSome
        · have := ih hs'
          by_cases hx : x.1 = a
          · have h2 : ¬ a = a' := fun e => h e.symm
            simp only [List.map_cons, hx, if_true, List.find?_cons, h2, decide_false]
            exact this
          · by_cases hx' : x.1 = a'
            · subst hx'
              simp [hx]
            · simp only [List.map_cons, hx, if_false, List.find?_cons, hx', decide_false]
              exact this
        · have hl : ∀ y ∈ l, y.1 ≠ a := by
            intro y hy e
            apply hs'
            unfold mget
            rw [Option.isSome_map, List.find?_isSome]
            exact ⟨y, hy, by simp [e]⟩
          have he : l.map (fun x => if x.1 = a then (a, v) else x) = l := by
            conv => rhs; rw [← List.map_id l]
            exact List.map_congr_left (fun y hy => by simp [hl y hy])
          by_cases hx : x.1 = a
          · have h2 : ¬ a = a' := fun e => h e.symm
            simp [List.find?_cons, hx, h2, he]
          · simp [hx, he]
  · rename_i hs
    have hs : mget m a = none := by simpa using hs
    by_cases h : a' = a
    · subst h
      rw [if_pos rfl]
      unfold mget at hs ⊢
      rw [Option.map_eq_none_iff] at hs
      rw [List.find?_append, hs]
      simp
    · rw [if_neg h]
      unfold mget
      have h2 : ¬ a = a' := fun e => h e.symm
      rw [List.find?_append]
      simp [h2]

theorem mget_del (m : List (K × Value)) (a a' : K) : mget (mdel m a) a' = if a' = a then none else mget m a' := by
  unfold mdel mget
  induction m with
  | nil => simp
  | cons x l ih =>
    by_cases hx : x.1 = a
    · rw [List.filter_cons_of_neg (by simp [hx]), ih]
      by_cases h : a' = a
      · simp [h]
      · have h2 : ¬ a = a' := fun e => h e.symm
        simp [h, List.find?_cons, hx, h2]
    · rw [List.filter_cons_of_pos (by simp [hx])]
      simp only [List.find?_cons]
      by_cases hx' : x.1 = a'
      · have : ¬ a' = a := fun e => hx (hx'.trans e)
        simp [hx', this]
      · simp only [hx', decide_false]
        exact ih

theorem mget_none_iff (m : List (K × Value)) (a : K) : mget m a = none ↔ ∀ x ∈ m, x.1 ≠ a := by
  unfold mget
  simp [List.find?_eq_none]

theorem mget_mem {m : List (K × Value)} {a : K} {v : Value} (h : mget m a = some v) : (a, v) ∈ m := by
  unfold mget at h
  rw [Option.map_eq_some_iff] at h
  obtain ⟨x, hx, rfl⟩ := h
  have h1 := List.find?_some hx
  have h2 := List.mem_of_find?_eq_some hx
  simp at h1
  subst h1
  exact h2

theorem mget_of_mem {m : List (K × Value)} {a : K} {v : Value} (hn : (m.map (·.1)).Nodup) (h : (a, v) ∈ m) : mget m a = some v := by
  induction m with
  | nil => simp at h
  | cons x l ih =>
    simp only [List.map_cons, List.nodup_cons] at hn
    rcases List.mem_cons.1 h with rfl | h
    · simp [mget]
    · have hx : ¬ x.1 = a := fun e => hn.1 (List.mem_map.2 ⟨(a, v), h, by simp [e]⟩)
      have := ih hn.2 h
      unfold mget at this ⊢
      simpa [List.find?_cons, hx] using this

theorem keys_put (m : List (K × Value)) (a : K) (v : Value) : (mput m a v).map (·.1) = if (mget m a).isSome then m.map (·.1) else m.map (·.1) ++ [a] := by
  unfold mput
  split
  · rw [List.map_map]
    exact List.map_congr_left (fun x _ => by by_cases h : x.1 = a <;> simp [h])
  · simp

theorem nodup_put (m : List (K × Value)) (a : K) (v : Value) (h : (m.map (·.1)).Nodup) : ((mput m a v).map (·.1)).Nodup := by
  rw [keys_put]
  split
  · exact h
  · rename_i hs
    have hs : mget m a = none := by simpa using hs
    rw [mget_none_iff] at hs
    rw [List.nodup_append]
    refine ⟨h, by simp, ?_⟩
    intro x hx y hy e
    simp at hy
    subst hy
    obtain ⟨z, hz, hz2⟩ := List.mem_map.1 hx
    exact hs z hz (hz2.trans e)

theorem nodup_del (m : List (K × Value)) (a : K) (h : (m.map (·.1)).Nodup) : ((mdel m a).map (·.1)).Nodup :=
  List.Sublist.nodup (List.Sublist.map _ (List.filter_sublist)) h

theorem length_del (m : List (K × Value)) (a : K) (h : (m.map (·.1)).Nodup) : (mdel m a).length = if (mget m a).isSome then m.length - 1 else m.length := by
  induction m with
  | nil => simp [mdel, mget]
  | cons x l ih =>
    simp only [List.map_cons, List.nodup_cons] at h
    by_cases hx : x.1 = a
    · have hl : mdel l a = l := by
        unfold mdel
        rw [List.filter_eq_self]
        intro y hy
        simp only [decide_eq_true_eq]
        intro e
        exact h.1 (List.mem_map.2 ⟨y, hy, by rw [e, hx]⟩)
      unfold mdel at hl ⊢
      rw [List.filter_cons_of_neg (by simp [hx]), hl]
      simp [mget, hx]
    · have := ih h.2
      have h3 : mget (x :: l) a = mget l a := by simp [mget, List.find?_cons, hx]
      rw [h3]
      unfold mdel at this ⊢
      rw [List.filter_cons_of_pos (by simp [hx]), List.length_cons, this]
      split
      · rename_i hs
        have : 0 < l.length := by
          cases l with
          | nil => simp [mget] at hs
          | cons _ _ => simp
        simp; omega
      · simp

/-- What is left of a map's block behind a write. -/
def setMap (w : World) (b : Nat) (o : Obj) : World := { w with heap := w.heap.setIfInBounds b o }

theorem setMap_chg (w : World) (b : Nat) (o : Obj) : Chg [b] w (setMap w b o) :=
  ⟨rfl, rfl, rfl, by simp [setMap], fun k _ hk => by simp only [setMap]; rw [Array.getElem?_setIfInBounds_ne (fun e => hk (by simp [e]))]⟩
theorem setMap_at {w : World} {b : Nat} {o : Obj} (o' : Obj) (h : w.heap[b]? = some o) : (setMap w b o').heap[b]? = some o' := by
  simp [setMap, blk_lt h]

theorem MapIs.upd (h : MapIs enc w b m) (E : KeyEnc P kt enc) (ht : P.underlying t = some (.map kt et)) (a : K) (v : Value) :
    ∃ o, (Instr.mapUpdate t (.map (some b)) (enc a) v).run P w = .ok () (setMap w b o) ∧ MapIs enc (setMap w b o) b (mput m a v) := by
  obtain ⟨es, clock, hb, hm, hn, hbn, hbl⟩ := h
  have hget : (getObj b).run P w = .ok (.map es clock) w := by unfold getObj; simp only [Sem.run, hb]
  have hset : ∀ o, (setObj b o).run P w = .ok () (setMap w b o) := by intro o; unfold setObj; simp only [Sem.run, hb]; rfl
  cases hf : findIn a m 0 with
  | none =>
    refine ⟨.map (es.push { key := enc a, val := v, born := clock }) (clock + 1), ?_, ?_⟩
    · unfold Instr.mapUpdate
      simp only [Sem.run_bind, run_underlying ht w, Result.andThen_ok, hget, E.chk, run_findKey E a w es.toList m hm, hf, hset]
    · have h0 : mget m a = none := by rw [← findIn_get a m 0, hf]; rfl
      refine ⟨_, _, setMap_at _ hb, ?_, nodup_put m a v hn, ?_, ?_⟩
      · simp [mput, h0, hm]
      · simp only [Array.toList_push, List.map_append, List.map_cons, List.map_nil, List.nodup_append]
        refine ⟨hbn, by simp, ?_⟩
        intro x hx y hy e
        simp at hy
        obtain ⟨q, hq, hq2⟩ := List.mem_map.1 hx
        have := hbl q hq
        omega
      · intro e he
        simp only [Array.toList_push, List.mem_append, List.mem_singleton] at he
        rcases he with he | rfl
        · have := hbl e he; omega
        · simp
  | some x =>
    obtain ⟨i, u⟩ := x
    obtain ⟨k, hk, hmk⟩ := findIn_some a m 0 i u hf
    have hk : i = k := by omega
    subst hk
    have hlen : es.toList.length = m.length := by have := congrArg List.length hm; simpa using this
    have hik : i < m.length := (List.getElem?_eq_some_iff.1 hmk).1
    have hie : i < es.size := by have := hlen; simp only [Array.length_toList] at this; omega
    have hekey : (es[i]'hie).key = enc a ∧ (es[i]'hie).val = u := by
      have h1 := congrArg (fun l => l[i]?) hm
      simp only [List.getElem?_map, hmk, Option.map_some, Array.getElem?_toList, Array.getElem?_eq_getElem hie, Option.some.injEq, Prod.mk.injEq] at h1
      exact h1
    refine ⟨.map (es.modify i fun e => { e with key := enc a, val := v }) clock, ?_, ?_⟩
    · unfold Instr.mapUpdate
      simp only [Sem.run_bind, run_underlying ht w, Result.andThen_ok, hget, E.chk, run_findKey E a w es.toList m hm, hf]
      have hst : ∀ x, (Instr.keyThatStays (((es[i]?).map (·.key)).getD (enc a)) (enc a)).run P x = .ok (enc a) x := by
        intro x
        rw [Array.getElem?_eq_getElem hie]
        simp only [Option.map_some, Option.getD_some, hekey.1]
        unfold Instr.keyThatStays
        simp [E.bits a]
      simp only [hst, Result.andThen_ok, hset]
    · have h0 : mget m a = some u := by rw [← findIn_get a m 0, hf]; rfl
      refine ⟨_, _, setMap_at _ hb, ?_, nodup_put m a v hn, ?_, ?_⟩
      · unfold mput
        rw [h0]
        simp only [Option.isSome_some, if_true]
        apply List.ext_getElem?
        intro j
        have h1 := congrArg (fun l => l[j]?) hm
        simp only [List.getElem?_map, Array.getElem?_toList, Array.getElem?_modify] at h1 ⊢
        by_cases hj : i = j
        · subst hj
          rw [hmk, Array.getElem?_eq_getElem hie]
          simp
        · rw [if_neg hj]
          rw [h1]
          cases hmj : m[j]? with
          | none => rfl
          | some y =>
            have hy : ¬ y.1 = a := by
              intro e
              apply hj
              have hjl : j < m.length := (List.getElem?_eq_some_iff.1 hmj).1
              have e1 : (m.map (·.1))[i]'(by simpa using hik) = (m.map (·.1))[j]'(by simpa using hjl) := by
                have a1 := (List.getElem?_eq_some_iff.1 hmk).2
                have a2 := (List.getElem?_eq_some_iff.1 hmj).2
                simp [a1, a2, e]
              exact (List.getElem_inj hn).1 e1
            simp [hy]
      · have : (es.modify i fun e => { e with key := enc a, val := v }).toList.map (·.born) = es.toList.map (·.born) := by
          apply List.ext_getElem?
          intro j
          simp only [List.getElem?_map, Array.getElem?_toList, Array.getElem?_modify]
          by_cases hj : i = j
          · subst hj; cases es[i]? <;> simp
          · simp [hj]
        rw [this]; exact hbn
      · intro e he
        obtain ⟨j, hj⟩ := List.mem_iff_getElem?.1 he
        simp only [Array.getElem?_toList, Array.getElem?_modify] at hj
        by_cases hij : i = j
        · subst hij
          rw [if_pos rfl, Array.getElem?_eq_getElem hie] at hj
          simp at hj
          subst hj
          exact hbl es[i] (by simp)
        · rw [if_neg hij] at hj
          exact hbl e (List.mem_iff_getElem?.2 ⟨j, by simpa using hj⟩)

theorem MapIs.del (h : MapIs enc w b m) (E : KeyEnc P kt enc) (ht : P.underlying t = some (.map kt et)) (a : K) (ty : TypeId) :
    ∃ o, (Builtin.delete_ #[t, kt] ty #[.map (some b), enc a]).run P w = .ok (.tuple #[]) (setMap w b o) ∧ MapIs enc (setMap w b o) b (mdel m a) := by
  obtain ⟨es, clock, hb, hm, hn, hbn, hbl⟩ := h
  have hget : (getObj b).run P w = .ok (.map es clock) w := by unfold getObj; simp only [Sem.run, hb]
  have hset : ∀ o, (setObj b o).run P w = .ok () (setMap w b o) := by intro o; unfold setObj; simp only [Sem.run, hb]; rfl
  cases hf : findIn a m 0 with
  | none =>
    refine ⟨.map es clock, ?_, ?_⟩
    · unfold Builtin.delete_
      simp [run_underlying ht w, hget, E.chk, run_findKey E a w es.toList m hm, hf, hset]
    · have h0 := findIn_none a m 0 hf
      have : mdel m a = m := by unfold mdel; rw [List.filter_eq_self]; intro x hx; simpa using h0 x hx
      rw [this]
      exact ⟨_, _, setMap_at _ hb, hm, hn, hbn, hbl⟩
  | some x =>
    obtain ⟨i, u⟩ := x
    obtain ⟨k, hk, hmk⟩ := findIn_some a m 0 i u hf
    have hk : i = k := by omega
    subst hk
    have hlen : es.toList.length = m.length := by have := congrArg List.length hm; simpa using this
    have hik : i < m.length := (List.getElem?_eq_some_iff.1 hmk).1
    have hdel : mdel m a = m.eraseIdx i := by
      unfold mdel
      clear hf hlen hm hk
      induction m generalizing i with
      | nil => simp at hik
      | cons y l ih =>
        simp only [List.map_cons, List.nodup_cons] at hn
        cases i with
        | zero =>
          simp at hmk
          subst hmk
          rw [List.filter_cons_of_neg (by simp), List.eraseIdx_cons_zero, List.filter_eq_self]
          intro z hz
          simp only [decide_eq_true_eq]
          intro e
          exact hn.1 (List.mem_map.2 ⟨z, hz, e⟩)
        | succ i =>
          simp at hmk hik
          have hy : ¬ y.1 = a := fun e => hn.1 (List.mem_map.2 ⟨(a, u), List.mem_of_getElem? hmk, by simp [e]⟩)
          rw [List.filter_cons_of_pos (by simp [hy]), List.eraseIdx_cons_succ, ih hn.2 i hmk hik]
    refine ⟨.map (es.eraseIdxIfInBounds i) clock, ?_, ?_⟩
    · unfold Builtin.delete_
      simp [run_underlying ht w, hget, E.chk, run_findKey E a w es.toList m hm, hf, hset]
    · have he : (es.eraseIdxIfInBounds i).toList = es.toList.eraseIdx i := by simp
      refine ⟨_, _, setMap_at _ hb, ?_, nodup_del m a hn, ?_, ?_⟩
      · rw [hdel, he, map_eraseIdx', map_eraseIdx', hm]
      · rw [he, map_eraseIdx']
        exact List.Sublist.nodup (List.eraseIdx_sublist _ _) hbn
      · intro e hx
        rw [he] at hx
        exact hbl e (List.mem_of_mem_eraseIdx hx)

omit [DecidableEq K] in
theorem MapIs.len (h : MapIs enc w b m) (ht : P.underlying t = some (.map kt et)) (ty : TypeId) :
    (Builtin.len_ #[t] ty #[.map (some b)]).run P w = .ok (.int .i64 m.length) w := by
  obtain ⟨es, clock, hb, hm, _⟩ := h
  have hlen : es.toList.length = m.length := by have := congrArg List.length hm; simpa using this
  have hget : (getObj b).run P w = .ok (.map es clock) w := by unfold getObj; simp only [Sem.run, hb]
  have : es.size = m.length := by simpa using hlen
  unfold Builtin.len_
  simp [run_underlying ht w, hget, goInt, this]
end
end Go.Proofs.YtpklkefnmoaaaaaGreatDoor

/- A row of cells read and written as one value: the walk's rules. Nothing of a program. -/
namespace Go.Proofs.YtpklkefnmoaaaaaGreatDoor
open Go.RowKit
set_option linter.unusedVariables false
set_option linter.unusedSimpArgs false

/-- The n cells of block b from place o on, if they are there. -/
def rng? (w : World) (b o n : Nat) : Option (Array Value) :=
  if (List.range n).all (fun j => (w.cell? ⟨b, o + j, none⟩).isSome) then some ((List.range n).map (fun j => (w.cell? ⟨b, o + j, none⟩).getD undef)).toArray else none
/-- May they be written? -/
def may (w : World) (b o n : Nat) : Bool := (List.range n).all (fun j => (w.cell? ⟨b, o + j, none⟩).isSome && !w.frozen? ⟨b, o + j, none⟩)
/-- They are written. -/
def setRng (w : World) (b o : Nat) (cs : Array Value) : World := w.setCells b o cs.toList

theorem rng?_congr {w w' : World} {b o n : Nat} (h : ∀ j, j < n → w'.cell? ⟨b, o + j, none⟩ = w.cell? ⟨b, o + j, none⟩) : rng? w' b o n = rng? w b o n := by
  unfold rng?
  have h1 : (List.range n).all (fun j => (w'.cell? ⟨b, o + j, none⟩).isSome) = (List.range n).all (fun j => (w.cell? ⟨b, o + j, none⟩).isSome) := by
    rw [Bool.eq_iff_iff]
    simp only [List.all_eq_true, List.mem_range]
    exact ⟨fun k j hj => by rw [← h j hj]; exact k j hj, fun k j hj => by rw [h j hj]; exact k j hj⟩
  rw [h1]
  congr 2
  congr 1
  exact List.map_congr_left (fun j hj => by rw [h j (List.mem_range.1 hj)])

theorem rng?_mk {w : World} {b o n : Nat} {cs : Array Value} (hs : cs.size = n) (h : ∀ j (hj : j < cs.size), w.cell? ⟨b, o + j, none⟩ = some cs[j]) : rng? w b o n = some cs := by
  subst hs
  unfold rng?
  rw [if_pos]
  · congr 1
    apply Array.ext
    · simp
    · intro j h1 h2
      simp [h j h2]
  · simp only [List.all_eq_true, List.mem_range]
    intro j hj
    rw [h j hj]; rfl

theorem rng?_cell {w : World} {b o n : Nat} {cs : Array Value} (h : rng? w b o n = some cs) : cs.size = n ∧ ∀ j (hj : j < cs.size), w.cell? ⟨b, o + j, none⟩ = some cs[j] := by
  unfold rng? at h
  split at h
  · rename_i hall
    simp only [Option.some.injEq] at h
    subst h
    refine ⟨by simp, fun j hj => ?_⟩
    simp only [List.all_eq_true, List.mem_range] at hall
    have hj' : j < n := by simpa using hj
    have := hall j hj'
    obtain ⟨u, hu⟩ := Option.isSome_iff_exists.1 this
    simp [hu]
  · cases h

theorem rng?_range {w : World} {b o n : Nat} {cs : Array Value} (h : rng? w b o n = some cs) : w.rangeAt b o cs.toList := by
  intro j v hv
  obtain ⟨h1, h2⟩ := rng?_cell h
  obtain ⟨hj, rfl⟩ := List.getElem?_eq_some_iff.1 hv
  simpa using h2 j (by simpa using hj)

theorem rng?_row {w : World} {b : Nat} {cs : Array Value} {t : TypeId} {fr : Nat × Nat} (h : w.heap[b]? = some (.cells cs t fr)) {n : Nat} (hs : cs.size = n) : rng? w b 0 n = some cs :=
  rng?_mk hs fun j hj => by rw [cell_of_row w b _ cs t fr h]; simp [hj]

theorem rng?_chg {F : List Nat} {w w' : World} (hc : Chg F w w') {b o n : Nat} {cs : Array Value} (h : rng? w b o n = some cs) (hn : 0 < n) (hF : b ∉ F) : rng? w' b o n = some cs := by
  rw [← h]
  apply rng?_congr
  intro j hj
  obtain ⟨h1, h2⟩ := rng?_cell h
  exact hc.cell (p := ⟨b, o + j, none⟩) (World.block_lt_of_cell? _ _ (h2 j (by omega))) hF

section
variable (w : World) (b o n : Nat)
@[go_sem] theorem rng?_drew : rng? w.drew b o n = rng? w b o n := rfl
@[go_sem] theorem rng?_drewN (k : Nat) : rng? (w.drewN k) b o n = rng? w b o n := rfl
@[go_sem] theorem may_drew : may w.drew b o n = may w b o n := rfl
@[go_sem] theorem may_drewN (k : Nat) : may (w.drewN k) b o n = may w b o n := rfl
@[go_sem] theorem rng?_alloc_past (x : Obj) (h : b < w.heap.size) : rng? (w.alloc x) b o n = rng? w b o n :=
  rng?_congr fun j _ => World.cell?_alloc_lt _ _ _ h
@[go_sem] theorem may_alloc_past (x : Obj) (h : b < w.heap.size) : may (w.alloc x) b o n = may w b o n := by
  unfold may
  congr 1
  funext j
  rw [World.cell?_alloc_lt _ _ _ h, World.frozen?_alloc_old _ _ _ (by simp; omega)]
@[go_sem] theorem rng?_alloc_at (c : Array Value) (t : TypeId) (hb : b = w.heap.size) (hs : c.size = n) : rng? (w.alloc (.cells c t)) b 0 n = some c := by
  subst hb
  exact rng?_row (blk_new w _) hs
@[go_sem] theorem may_alloc_at (c : Array Value) (t : TypeId) (hb : b = w.heap.size) (hs : c.size = n) : may (w.alloc (.cells c t)) b 0 n = true := by
  subst hb hs
  unfold may
  simp only [List.all_eq_true, List.mem_range]
  intro j hj
  rw [cell_of_row _ _ _ _ _ _ (blk_new w _), frozen_of_row _ _ _ _ _ (blk_new w _)]
  simp [hj]
@[go_sem] theorem rng?_setCell_other (a : Addr) (v : Value) (h : ¬ b = a.block) : rng? (w.setCell a v) b o n = rng? w b o n :=
  rng?_congr fun j _ => World.cell?_setCell_other _ _ _ _ (fun e => h (by rw [e]))
theorem may_set (a : Addr) (v : Value) : may w b o n = true → may (w.setCell a v) b o n = true := by
  unfold may
  simp only [List.all_eq_true, List.mem_range]
  intro h j hj
  have h1 := h j hj
  rw [Bool.and_eq_true] at h1 ⊢
  refine ⟨?_, by rw [World.frozen?_setCell]; exact h1.2⟩
  obtain ⟨u, hu⟩ := Option.isSome_iff_exists.1 h1.1
  obtain ⟨v', hv'⟩ := cell?_setCell_some (w := w) (p := a) (x := v) (q := ⟨b, o + j, none⟩) (v := u) hu
  rw [hv']; rfl
@[go_sem] theorem may_setCell (a : Addr) (v : Value) (h : may w b o n = true) : may (w.setCell a v) b o n = true := may_set w b o n a v h
theorem may_row {w : World} {b : Nat} {cs : Array Value} {t : TypeId} (h : w.heap[b]? = some (.cells cs t (0, 0))) (hs : o + n ≤ cs.size) : may w b o n = true := by
  unfold may
  simp only [List.all_eq_true, List.mem_range]
  intro j hj
  rw [cell_of_row _ _ _ _ _ _ h, frozen_of_row _ _ _ _ _ h]
  have : o + j < cs.size := by omega
  simp [this]
theorem may_there {w : World} {b o n : Nat} (h : may w b o n = true) : w.there b o n := by
  intro j hj
  unfold may at h
  simp only [List.all_eq_true, List.mem_range, Bool.and_eq_true, Bool.not_eq_true'] at h
  exact h j hj
end

/-- Is each of them one cell? -/
def one1 (cs : Array Value) : Bool := cs.all (·.oneCell')

section
variable {P : Program}
/-- What a load of a row comes to. -/
def ldR (P : Program) (t : TypeId) (b o : Nat) (w : World) : Option (Array Value) → Result Value
  | some cs => .ok (.agg cs) w
  | none => (Instr.loadAt t (.pointer (some ⟨b, o, none⟩))).run P w
@[go_sem] theorem ldR_some (t : TypeId) (b o : Nat) (w : World) (cs : Array Value) : ldR P t b o w (some cs) = .ok (.agg cs) w := rfl
theorem run_ldR (t : TypeId) (d : TypeDesc) (n : Nat) (hu : P.underlying t = some d) (hd : d.isRow = true) (hi : (P.info? t).map (·.size) = some n) (b o : Nat) (w : World) :
    (Instr.loadAt t (.pointer (some ⟨b, o, none⟩))).run P w = ldR P t b o w (rng? w b o n) := by
  cases h : rng? w b o n with
  | none => rfl
  | some cs =>
    have := run_loadAt_mid (P := P) w b o t cs.toList d (rng?_range h) hu hd (by rw [hi, Array.length_toList, (rng?_cell h).1])
    simpa [ldR] using this
/-- What a store of a row comes to. -/
def stR (P : Program) (t : TypeId) (b o : Nat) (cs : Array Value) (w : World) : Bool → Result Unit
  | true => .ok () (setRng w b o cs)
  | false => (Instr.storeAt t (.pointer (some ⟨b, o, none⟩)) (.agg cs)).run P w
@[go_sem] theorem stR_true (t : TypeId) (b o : Nat) (w : World) (cs : Array Value) : stR P t b o cs w true = .ok () (setRng w b o cs) := rfl
theorem run_stR (t : TypeId) (n : Nat) (hi : (P.info? t).map (·.size) = some n) (b o : Nat) (cs : Array Value) (w : World) :
    (Instr.storeAt t (.pointer (some ⟨b, o, none⟩)) (.agg cs)).run P w = stR P t b o cs w (may w b o n && decide (cs.size = n) && one1 cs) := by
  cases h : (may w b o n && decide (cs.size = n) && one1 cs) with
  | false => rfl
  | true =>
    simp only [Bool.and_eq_true, decide_eq_true_eq] at h
    exact run_storeAt_mid w b o t cs (by rw [h.1.2]; exact may_there h.1.1) (by rw [hi, h.1.2]) h.2
end

/-! The operations held back till their operands are reckoned. -/
def ldX (t : TypeId) (x : Value) : Sem Value := Instr.loadAt t x
def stX (t : TypeId) (x v : Value) : Sem Unit := Instr.storeAt t x v
def bdX (t : TypeId) (ps : Array (Nat × Value)) : Sem Value := Instr.build t ps
def lvX (t : TypeId) (a : Addr) : Sem Value := loadVar t a
def deX (ts : Array TypeId) (ty : TypeId) (xs : Array Value) : Sem Value := Builtin.delete_ ts ty xs
@[go_sem ↓] theorem hold_de (ts : Array TypeId) (ty : TypeId) (xs : Array Value) : Builtin.delete_ ts ty xs = deX ts ty xs := rfl
theorem run_lvR {P : Program} (t : TypeId) (d : TypeDesc) (n : Nat) (hu : P.underlying t = some d) (hd : d.isRow = true) (hi : (P.info? t).map (·.size) = some n) (b o : Nat) (w : World) :
    (lvX t ⟨b, o, none⟩).run P w = ldR P t b o w (rng? w b o n) := by
  rw [← run_ldR t d n hu hd hi b o w]
  simp [Instr.loadAt, Instr.sureAddr, lvX]
def bsX (t : TypeId) (n : Nat) (ps : Array (Nat × Value)) : Sem Value := Instr.buildSlice t n ps

/-! What is known behind a write. -/
theorem setCells_heap (g : Nat) (t : TypeId) : ∀ (vs : List Value) (o : Nat) (cur : Array Value) (w : World), w.heap[g]? = some (.cells cur t (0, 0)) → o + vs.length ≤ cur.size →
    (w.setCells g o vs).heap[g]? = some (.cells (cur.toList.take o ++ vs ++ cur.toList.drop (o + vs.length)).toArray t (0, 0))
  | [], o, cur, w, h, _ => by simp [World.setCells, h]
  | v :: r, o, cur, w, h, hl => by
    simp at hl
    rw [World.setCells, setCells_heap g t r (o + 1) (cur.setIfInBounds o v) (w.setCell ⟨g, o, none⟩ v) (blk_set h o v) (by simp; omega)]
    congr 3
    have e : (cur.setIfInBounds o v).toList = cur.toList.take o ++ [v] ++ cur.toList.drop (o + 1) := by
      rw [Array.toList_setIfInBounds, List.set_eq_take_append_cons_drop, if_pos (by simp; omega)]
      simp
    rw [e]
    have h1 : (cur.toList.take o).length = o := by simp; omega
    have e2 : (cur.toList.take o ++ [v] ++ cur.toList.drop (o + 1)).take (o + 1) = cur.toList.take o ++ [v] := by
      rw [List.take_append_of_le_length (by simp; omega), List.take_of_length_le (by simp; omega)]
    have e3 : (cur.toList.take o ++ [v] ++ cur.toList.drop (o + 1)).drop (o + 1 + r.length) = cur.toList.drop (o + (v :: r).length) := by
      rw [List.drop_append, List.drop_eq_nil_of_le (by simp; omega), List.drop_drop]
      simp only [List.nil_append, List.length_append, List.length_cons, List.length_nil, h1]
      congr 1
      omega
    rw [e2, e3]
    simp
theorem setCells_other (g : Nat) : ∀ (vs : List Value) (o : Nat) (w : World) (k : Nat), k ≠ g → (w.setCells g o vs).heap[k]? = w.heap[k]?
  | [], _, _, _, _ => rfl
  | v :: r, o, w, k, h => by rw [World.setCells, setCells_other g r _ _ k h, heap_setCell_other _ _ _ _ h]
theorem setCells_size (g : Nat) : ∀ (vs : List Value) (o : Nat) (w : World), (w.setCells g o vs).heap.size = w.heap.size
  | [], _, _ => rfl
  | v :: r, o, w => by rw [World.setCells, setCells_size g r]; simp
theorem setCells_os (g : Nat) : ∀ (vs : List Value) (o : Nat) (w : World), (w.setCells g o vs).os = w.os ∧ (w.setCells g o vs).tape = w.tape ∧ (w.setCells g o vs).output = w.output
  | [], _, _ => ⟨rfl, rfl, rfl⟩
  | v :: r, o, w => setCells_os g r (o + 1) (w.setCell ⟨g, o, none⟩ v)

theorem setRng_chg (w : World) (b o : Nat) (cs : Array Value) : Chg [b] w (setRng w b o cs) := by
  obtain ⟨h1, h2, h3⟩ := setCells_os b cs.toList o w
  exact ⟨h1, h2, h3, by rw [setRng, setCells_size]; exact Nat.le_refl _, fun k _ hk => setCells_other b _ _ _ _ (fun e => hk (by simp [e]))⟩
theorem Chg.setRng {F : List Nat} {a w : World} (h : Chg F a w) {b : Nat} (hp : b ∈ F ∨ a.heap.size ≤ b) (o : Nat) (cs : Array Value) : Chg F a (Proofs.YtpklkefnmoaaaaaGreatDoor.setRng w b o cs) :=
  h.trans (setRng_chg w b o cs) (by simpa using hp)
@[go_sem, simp] theorem setRng_size (w : World) (b o : Nat) (cs : Array Value) : (setRng w b o cs).heap.size = w.heap.size := setCells_size b _ _ _
theorem setRng_heap {w : World} {b : Nat} {cur : Array Value} {t : TypeId} (h : w.heap[b]? = some (.cells cur t (0, 0))) (o : Nat) (cs : Array Value) (hl : o + cs.size ≤ cur.size) :
    (setRng w b o cs).heap[b]? = some (.cells (cur.toList.take o ++ cs.toList ++ cur.toList.drop (o + cs.size)).toArray t (0, 0)) := by
  have := setCells_heap b t cs.toList o cur w h (by simpa using hl)
  simpa [setRng] using this
@[go_sem] theorem setRng_drew (w : World) (b o : Nat) (cs : Array Value) : setRng w.drew b o cs = (setRng w b o cs).drew := by
  unfold setRng
  generalize cs.toList = l
  induction l generalizing w o with
  | nil => rfl
  | cons v r ih => rw [World.setCells, World.setCell_drew, ih]; rfl
@[go_sem] theorem setRng_drewN (w : World) (k b o : Nat) (cs : Array Value) : setRng (w.drewN k) b o cs = (setRng w b o cs).drewN k := by
  unfold setRng
  generalize cs.toList = l
  induction l generalizing w o with
  | nil => rfl
  | cons v r ih => rw [World.setCells, show (w.drewN k).setCell ⟨b, o, none⟩ v = (w.setCell ⟨b, o, none⟩ v).drewN k from rfl, ih]; rfl
@[go_sem] theorem cell?_setRng_other (w : World) (b o : Nat) (cs : Array Value) (a : Addr) (h : ¬ a.block = b) : (setRng w b o cs).cell? a = w.cell? a :=
  World.cell?_setCells_out b _ _ _ _ (fun e => absurd e h)
@[go_sem] theorem frozen?_setRng (w : World) (b o : Nat) (cs : Array Value) (a : Addr) : (setRng w b o cs).frozen? a = w.frozen? a := World.frozen?_setCells b _ _ _ _
@[go_sem] theorem rng?_setRng_other (w : World) (b o : Nat) (cs : Array Value) (b' o' n : Nat) (h : ¬ b' = b) : rng? (setRng w b o cs) b' o' n = rng? w b' o' n :=
  rng?_congr fun j _ => cell?_setRng_other w b o cs _ h
@[go_sem] theorem setRng_alloc_at (w : World) (c cs : Array Value) (t : TypeId) (b : Nat) (hb : b = w.heap.size) (hs : c.size = cs.size) : setRng (w.alloc (.cells c t)) b 0 cs = w.alloc (.cells cs t) := by
  subst hb
  have h := setRng_heap (blk_new w (.cells c t)) 0 cs (by omega)
  have h1 : c.toList.drop (0 + cs.size) = [] := by rw [List.drop_eq_nil_iff]; simp; omega
  rw [h1] at h
  simp only [List.take_zero, List.nil_append, List.append_nil, Array.toArray_toList] at h
  obtain ⟨h3, h4, h5⟩ := setCells_os w.heap.size cs.toList 0 (w.alloc (.cells c t))
  have hd : (setRng (w.alloc (.cells c t)) w.heap.size 0 cs).drawn = w.drawn := by
    unfold setRng
    generalize cs.toList = l
    have : ∀ (l : List Value) (o : Nat) (w' : World), (w'.setCells w.heap.size o l).drawn = w'.drawn := by
      intro l
      induction l with
      | nil => intro o w'; rfl
      | cons v r ih => intro o w'; rw [World.setCells, ih]; rfl
    exact this l 0 _
  have hh : (setRng (w.alloc (.cells c t)) w.heap.size 0 cs).heap = (w.alloc (.cells cs t)).heap := by
    apply Array.ext_getElem?
    intro k
    by_cases hk : k = w.heap.size
    · subst hk; rw [h, blk_new]
    · rw [show (setRng (w.alloc (.cells c t)) w.heap.size 0 cs).heap[k]? = (w.alloc (.cells c t)).heap[k]? from setCells_other _ _ _ _ _ hk]
      show (w.heap.push _)[k]? = (w.heap.push _)[k]?
      rw [Array.getElem?_push, Array.getElem?_push, if_neg hk, if_neg hk]
  generalize hq : setRng (w.alloc (.cells c t)) w.heap.size 0 cs = q at *
  cases q
  simp only [World.alloc] at *
  unfold setRng at hq
  rw [hq] at h3 h4 h5
  simp_all
theorem may_cell {w : World} {b o n : Nat} (h : may w b o n = true) {j : Nat} (hj : j < n) : (w.cell? ⟨b, o + j, none⟩).isSome = true ∧ w.frozen? ⟨b, o + j, none⟩ = false := may_there h j hj
theorem may_chg {F : List Nat} {w w' : World} (hc : Chg F w w') {b o n : Nat} (h : may w b o n = true) (hn : 0 < n) (hF : b ∉ F) : may w' b o n = true := by
  unfold may
  simp only [List.all_eq_true, List.mem_range]
  intro j hj
  obtain ⟨h1, h2⟩ := may_cell h hj
  obtain ⟨u, hu⟩ := Option.isSome_iff_exists.1 h1
  have hl := World.block_lt_of_cell? _ _ hu
  rw [hc.cell (p := ⟨b, o + j, none⟩) hl hF, hc.frozen (p := ⟨b, o + j, none⟩) hl hF, h1, h2]
  rfl
@[go_sem] theorem rng?_setRng_same (w : World) (b o n : Nat) (cs : Array Value) (h : may w b o n = true) (hs : cs.size = n) : rng? (setRng w b o cs) b o n = some cs := by
  refine rng?_mk hs fun j hj => ?_
  have := World.cell?_setCells_in b cs.toList o w (fun i hi => (may_cell h (by simp at hi; omega)).1) j (by simpa using hj)
  simpa [setRng] using this
@[go_sem] theorem may_setRng (w : World) (b o n b' o' : Nat) (cs : Array Value) (h : may w b o n = true) : may (setRng w b' o' cs) b o n = true := by
  have : ∀ (l : List Value) (w : World) (o' : Nat), may w b o n = true → may (w.setCells b' o' l) b o n = true := by
    intro l
    induction l with
    | nil => intro w o' h; exact h
    | cons v r ih => intro w o' h; exact ih _ _ (may_set _ _ _ _ _ _ h)
  exact this _ _ _ h

/-! Results that lie in memory. -/
theorem results_row2 {P : Program} {fn : Func} {p q : Tmp} {t : TypeId} (d : TypeDesc) (n : Nat) (hu : P.underlying t = some d) (hd : d.isRow = true) (hi : (P.info? t).map (·.size) = some n)
    (h : fn.results = #[.cell p t, .tmp q]) (tmps : Array Value) (w : World) {b o : Nat} {cs : Array Value} (hp : tmps.getD p undef = .pointer (some ⟨b, o, none⟩)) (hr : rng? w b o n = some cs) :
    (results fn tmps).run P w = .ok (.tuple #[.agg cs, tmps.getD q undef]) w := by
  have hl := run_lvR (P := P) t d n hu hd hi b o w
  rw [hr] at hl
  have hl : (loadVar t ⟨b, o, none⟩).run P w = .ok (.agg cs) w := hl
  have hp' : tmps[p]?.getD undef = .pointer (some ⟨b, o, none⟩) := by simpa using hp
  simp [results, h, hp', asAddr, hl]
theorem results_row1 {P : Program} {fn : Func} {p : Tmp} {t : TypeId} (d : TypeDesc) (n : Nat) (hu : P.underlying t = some d) (hd : d.isRow = true) (hi : (P.info? t).map (·.size) = some n)
    (h : fn.results = #[.cell p t]) (tmps : Array Value) (w : World) {b o : Nat} {cs : Array Value} (hp : tmps.getD p undef = .pointer (some ⟨b, o, none⟩)) (hr : rng? w b o n = some cs) :
    (results fn tmps).run P w = .ok (.agg cs) w := by
  have hl := run_lvR (P := P) t d n hu hd hi b o w
  rw [hr] at hl
  have hl : (loadVar t ⟨b, o, none⟩).run P w = .ok (.agg cs) w := hl
  have hp' : tmps[p]?.getD undef = .pointer (some ⟨b, o, none⟩) := by simpa using hp
  simp [results, h, hp', asAddr, hl]
end Go.Proofs.YtpklkefnmoaaaaaGreatDoor

/- The store: what it is in memory. -/
namespace Go.Proofs.YtpklkefnmoaaaaaGreatDoor
open Go.RowKit
set_option linter.unusedVariables false
set_option linter.unusedSimpArgs false

/-- A hash's 32 cells. -/
def IsHash (h : Array Value) : Prop := h.size = 32 ∧ ∀ v ∈ h.toList, ∃ n : Int, v = .int .u8 n ∧ 0 ≤ n ∧ n < 256
def zeroHash : Array Value := Array.replicate 32 (.int .u8 0)

theorem zeroHash_size : zeroHash.size = 32 := by simp [zeroHash]
theorem zeroHash_is : IsHash zeroHash := ⟨zeroHash_size, by intro v hv; simp [zeroHash] at hv; exact ⟨0, hv, by omega, by omega⟩⟩
theorem IsHash.one {h : Array Value} (hh : IsHash h) : one1 h = true :=
  Array.all_eq_true_iff_forall_mem.2 (fun v hv => by obtain ⟨n, rfl, _⟩ := hh.2 v (by simpa using hv); rfl)
/-- A node's 33 cells. -/
def nodeOf (h : Array Value) (b : Bool) : Array Value := h.push (.bool b)
theorem nodeOf_size {h : Array Value} (hh : h.size = 32) (b : Bool) : (nodeOf h b).size = 33 := by simp [nodeOf, hh]
theorem nodeOf_one {h : Array Value} (hh : one1 h = true) (b : Bool) : one1 (nodeOf h b) = true := by
  unfold one1 at *
  rw [Array.all_eq_true_iff_forall_mem] at hh ⊢
  intro v hv
  simp only [nodeOf, Array.mem_push] at hv
  rcases hv with hv | rfl
  · exact hh v hv
  · rfl
attribute [go_sem] zeroHash_size nodeOf_size nodeOf_one
@[go_sem] theorem zeroHash_one : one1 zeroHash = true := zeroHash_is.one

theorem foldl_set (off : Nat) : ∀ (l : List Value) (n : Nat) (cs : Array Value), off + n + l.length ≤ cs.size →
    ((l.zipIdx n).foldl (fun cs (x : Value × Nat) => cs.setIfInBounds (off + x.2) x.1) cs).toList = cs.toList.take (off + n) ++ l ++ cs.toList.drop (off + n + l.length) := by
  intro l
  induction l with
  | nil => intro n cs _; simp
  | cons v r ih =>
    intro n cs hl
    simp at hl
    rw [List.zipIdx_cons, List.foldl_cons, ih (n + 1) _ (by simp; omega)]
    have e : (cs.setIfInBounds (off + n) v).toList = cs.toList.take (off + n) ++ [v] ++ cs.toList.drop (off + n + 1) := by
      rw [Array.toList_setIfInBounds, List.set_eq_take_append_cons_drop, if_pos (by simp; omega)]
      simp
    simp only [e]
    have h1 : (cs.toList.take (off + n)).length = off + n := by simp; omega
    have e2 : (cs.toList.take (off + n) ++ [v] ++ cs.toList.drop (off + n + 1)).take (off + (n + 1)) = cs.toList.take (off + n) ++ [v] := by
      rw [List.take_append_of_le_length (by simp; omega), List.take_of_length_le (by simp; omega)]
    have e3 : (cs.toList.take (off + n) ++ [v] ++ cs.toList.drop (off + n + 1)).drop (off + (n + 1) + r.length) = cs.toList.drop (off + n + (v :: r).length) := by
      rw [List.drop_append, List.drop_eq_nil_of_le (by simp; omega), List.drop_drop]
      simp only [List.nil_append, List.length_append, List.length_cons, List.length_nil, h1]
      congr 1
      omega
    rw [e2, e3]
    simp

def encU (p : Nat) : Value := .int .u64 p
def encK (p : Nat) : Value := .agg #[.int .u64 p]

theorem u_u64 : Tryz.prog.underlying 38 = some (.int .u64) := by kernel_rfl
theorem u_mapp : Tryz.prog.underlying 105 = some (.map 38 3) := by kernel_rfl
theorem u_mapc : Tryz.prog.underlying 148 = some (.map 212 215) := by kernel_rfl
theorem u_key : Tryz.prog.underlying 212 = some (.struct (Tryz.prog.fieldsOf 212)) := by kernel_rfl
theorem z_int (w : World) : (zeroValue 3).run Tryz.prog w = .ok (.int .i64 0) w := by kernel_rfl
theorem z_pchunk (w : World) : (zeroValue 215).run Tryz.prog w = .ok (.pointer none) w := by kernel_rfl

theorem encU_law : KeyEnc (K := Nat) Tryz.prog 38 encU where
  desc := ⟨_, u_u64, fun a b => .inr (by simp only [encU, Instr.sameNow, if_true, Option.some.injEq]; by_cases h : a = b <;> simp [h]; omega)⟩
  eq a b w := by
    unfold encU
    rw [Op.equal, Op.maxDepth, run_equalIn_int w 9999 38 .u64 .u64 a b u_u64]
    by_cases h : a = b <;> simp [h]; omega
  chk e a w := by
    unfold encU Instr.checkKey
    simp [run_underlying u_u64 w]
  bits a := by simp [encU, Instr.sameBits]
  inj a b h := by simp [encU] at h; omega

theorem encK_law : KeyEnc (K := Nat) Tryz.prog 212 encK where
  desc := ⟨_, u_key, fun a b => .inl (by simp [encK, Instr.sameNow])⟩
  eq a b w := by
    have h1 : (Op.equal 212 (encK a) (encK b)).run Tryz.prog w = .ok ((a : Int) == b) w := by
      unfold encK Op.equal Op.maxDepth
      simp [go_sem]
      by_cases h : (a : Int) = b <;> simp [h]
    rw [h1]
    by_cases h : a = b <;> simp [h]; omega
  chk e a w := by
    unfold encK Instr.checkKey
    simp [go_sem, run_underlying u_key w]
    unfold Instr.checkKey
    simp [run_underlying u_u64 w]
  bits a := by simp [encK, Instr.sameBits]
  inj a b h := by simp [encK] at h; omega

/-! The walk's rules on wide values. -/
@[go_sem ↓] theorem hold_ld_Hash (x : Value) : Instr.loadAt 36 x = ldX 36 x := rfl
@[go_sem ↓] theorem hold_lv_Hash (a : Addr) : loadVar 36 a = lvX 36 a := rfl
@[go_sem ↓] theorem hold_ld_node (x : Value) : Instr.loadAt 209 x = ldX 209 x := rfl
@[go_sem ↓] theorem hold_st_Hash (x v : Value) : Instr.storeAt 36 x v = stX 36 x v := rfl
@[go_sem ↓] theorem hold_st_node (x v : Value) : Instr.storeAt 209 x v = stX 209 x v := rfl
@[go_sem ↓] theorem hold_bd_Hash (ps : Array (Nat × Value)) : Instr.build 36 ps = bdX 36 ps := rfl
@[go_sem ↓] theorem hold_bd_node (ps : Array (Nat × Value)) : Instr.build 209 ps = bdX 209 ps := rfl
@[go_sem ↓] theorem hold_bs_node (n : Nat) (ps : Array (Nat × Value)) : Instr.buildSlice 216 n ps = bsX 216 n ps := rfl
theorem u_Hash : Tryz.prog.underlying 36 = some (.array 32 5) := by kernel_rfl
theorem u_node : Tryz.prog.underlying 209 = some (.struct (Tryz.prog.fieldsOf 209)) := by kernel_rfl
@[go_sem] theorem ld_Hash (b o : Nat) (w : World) : (ldX 36 (.pointer (some ⟨b, o, none⟩))).run Tryz.prog w = ldR Tryz.prog 36 b o w (rng? w b o 32) := run_ldR _ _ 32 u_Hash rfl (by kernel_rfl) b o w
@[go_sem] theorem lv_Hash (b o : Nat) (w : World) : (lvX 36 ⟨b, o, none⟩).run Tryz.prog w = ldR Tryz.prog 36 b o w (rng? w b o 32) := run_lvR _ _ 32 u_Hash rfl (by kernel_rfl) b o w
@[go_sem] theorem ld_node (b o : Nat) (w : World) : (ldX 209 (.pointer (some ⟨b, o, none⟩))).run Tryz.prog w = ldR Tryz.prog 209 b o w (rng? w b o 33) := run_ldR _ _ 33 u_node rfl (by kernel_rfl) b o w
@[go_sem] theorem st_Hash (b o : Nat) (cs : Array Value) (w : World) : (stX 36 (.pointer (some ⟨b, o, none⟩)) (.agg cs)).run Tryz.prog w = stR Tryz.prog 36 b o cs w (may w b o 32 && decide (cs.size = 32) && one1 cs) := run_stR _ 32 (by kernel_rfl) b o cs w
@[go_sem] theorem st_node (b o : Nat) (cs : Array Value) (w : World) : (stX 209 (.pointer (some ⟨b, o, none⟩)) (.agg cs)).run Tryz.prog w = stR Tryz.prog 209 b o cs w (may w b o 33 && decide (cs.size = 33) && one1 cs) := run_stR _ 33 (by kernel_rfl) b o cs w
@[go_sem ↓] theorem zv_Hash (w : World) : (zeroValue 36).run Tryz.prog w = .ok (.agg zeroHash) w := by kernel_rfl
theorem zv_node (w : World) : (zeroValue 209).run Tryz.prog w = .ok (.agg (nodeOf zeroHash false)) w := by kernel_rfl
@[go_sem] theorem bd_Hash (w : World) : (bdX 36 #[]).run Tryz.prog w = .ok (.agg zeroHash) w := by kernel_rfl
@[go_sem] theorem bd_node0 (w : World) : (bdX 209 #[]).run Tryz.prog w = .ok (.agg (nodeOf zeroHash false)) w := by kernel_rfl

theorem res_Hash2 {fn : Func} {p q : Tmp} (h : fn.results = #[.cell p 36, .tmp q]) (tmps : Array Value) (w : World) {b o : Nat} {cs : Array Value} (hp : tmps.getD p undef = .pointer (some ⟨b, o, none⟩)) (hr : rng? w b o 32 = some cs) :
    (results fn tmps).run Tryz.prog w = .ok (.tuple #[.agg cs, tmps.getD q undef]) w := results_row2 _ 32 u_Hash rfl (by kernel_rfl) h tmps w hp hr
theorem res_Hash1 {fn : Func} {p : Tmp} (h : fn.results = #[.cell p 36]) (tmps : Array Value) (w : World) {b o : Nat} {cs : Array Value} (hp : tmps.getD p undef = .pointer (some ⟨b, o, none⟩)) (hr : rng? w b o 32 = some cs) :
    (results fn tmps).run Tryz.prog w = .ok (.agg cs) w := results_row1 _ 32 u_Hash rfl (by kernel_rfl) h tmps w hp hr
theorem run_places_node (w : World) : ((Tryz.prog.fieldsOf 209).mapM fun (f : Field) => do pure (f.offset, ← sizeOf f.type)).run Tryz.prog w = .ok #[(0, 32), (32, 1)] w := by kernel_rfl
theorem fill_part (place : Nat → Option (Nat × Nat)) (cells : Array Value) (i off size : Nat) (v : Value) (rest : List (Nat × Value)) (hp : place i = some (off, size)) (hs : v.cells.size = size) (ho : off + size ≤ cells.size) :
    Instr.fill place cells ((i, v) :: rest) = Instr.fill place (cells.toList.take off ++ v.cells.toList ++ cells.toList.drop (off + size)).toArray rest := by
  subst hs
  have h := foldl_set off v.cells.toList 0 cells (by simpa using ho)
  have h2 : (v.cells.zipIdx.foldl (fun cs (x : Value × Nat) => cs.setIfInBounds (off + x.2) x.1) cells) = (cells.toList.take off ++ v.cells.toList ++ cells.toList.drop (off + v.cells.size)).toArray := by
    rw [← Array.foldl_toList, Array.toList_zipIdx]
    apply Array.toList_inj.1
    simpa using h
  rw [Instr.fill, hp]
  simp only [ne_eq, not_true, false_or, gt_iff_lt]
  rw [if_neg (by simp; omega)]
  congr 1
@[go_sem] theorem bd_node (h : Array Value) (b : Bool) (hh : h.size = 32) (w : World) : (bdX 209 #[(0, .agg h), (1, .bool b)]).run Tryz.prog w = .ok (.agg (nodeOf h b)) w := by
  unfold bdX Instr.build
  simp only [Sem.run_bind, zv_node, run_underlying u_node, Result.andThen_ok, run_places_node]
  have hz : (nodeOf zeroHash false).size = 33 := nodeOf_size zeroHash_size false
  have hl : h.toList.length = 32 := by simpa using hh
  simp only [Value.cells]
  rw [fill_part _ _ 0 0 32 (.agg h) _ rfl (by simpa [Value.cells] using hh) (by omega)]
  rw [fill_part _ _ 1 32 1 (.bool b) _ rfl rfl (by simp [Value.cells, hh, hz, zeroHash_size])]
  simp only [Instr.fill, Sem.run_pure, Result.ok.injEq, and_true, Value.agg.injEq]
  apply Array.toList_inj.1
  simp [nodeOf, Value.cells, hh, hz, List.take_append, hl, zeroHash_size]
theorem u_nodes : Tryz.prog.underlying 216 = some (.slice 209) := by kernel_rfl
theorem i_node : (Tryz.prog.info? 209).map (fun i => (i.zero, i.size, i.bytes)) = some (some (.agg (nodeOf zeroHash false)), 33, 33) := by kernel_rfl
theorem infoOf {P : Program} {t : TypeId} {z : Value} {n k : Nat} (h : (P.info? t).map (fun i => (i.zero, i.size, i.bytes)) = some (some z, n, k)) : ∃ i, P.info? t = some i ∧ i.zero = some z ∧ i.size = n ∧ i.bytes = k := by
  cases hi : P.info? t with
  | none => simp [hi] at h
  | some i => simp [hi] at h; exact ⟨i, rfl, h⟩
@[go_sem] theorem bs_node (cs : Array Value) (hs : cs.size = 33) (w : World) : (bsX 216 1 #[(0, .agg cs)]).run Tryz.prog w = .ok (.slice (some ⟨w.heap.size, 0, none⟩) 1 1) (w.alloc (.cells cs 209)) := by
  obtain ⟨i, hi, hz, hsz, _⟩ := infoOf i_node
  unfold bsX Instr.buildSlice
  have h33 : (nodeOf zeroHash false).size = 33 := nodeOf_size zeroHash_size false
  have hso : ∀ w, (sizeOf 209).run Tryz.prog w = .ok 33 w := by intro w; simp [sizeOf, typeInfo, hi, hsz]
  simp only [Sem.run_bind, run_underlying u_nodes, Result.andThen_ok, hso, zv_node, Sem.run_ite, Nat.one_mul, Sem.run_pure]
  simp only [show ¬ (33 > 2 ^ 24) from by decide, show ¬ (33 = 0) from by decide, if_false, Result.andThen_ok, Value.cells]
  rw [fill_part _ _ 0 0 33 (.agg cs) _ rfl (by simpa [Value.cells] using hs) (by simp)]
  have e : ((((Array.range 33).map fun x => (nodeOf zeroHash false)[x % (nodeOf zeroHash false).size]!).toList.take 0 ++ (Value.agg cs).cells.toList ++ ((Array.range 33).map fun x => (nodeOf zeroHash false)[x % (nodeOf zeroHash false).size]!).toList.drop (0 + 33)).toArray) = cs := by
    apply Array.toList_inj.1
    simp [Value.cells]
  rw [e]
  rfl

/-- A chunk: its key, its block, its nodes' block, how many there is room for, the nodes. -/
structure Ck where
  k : Nat
  c : Nat
  nb : Nat
  cap : Nat
  ns : List (Option (Array Value))

def nodeCells : Option (Array Value) → List Value
  | some h => h.toList ++ [.bool true]
  | none => zeroHash.toList ++ [.bool false]
def cellsOf (ns : List (Option (Array Value))) : List Value := ns.flatMap nodeCells
def liveOf (ns : List (Option (Array Value))) : Nat := ns.countP (·.isSome)

def CkIs (w : World) (x : Ck) : Prop :=
  w.heap[x.c]? = some (.cells #[.slice (some ⟨x.nb, 0, none⟩) x.ns.length x.cap, .int .i64 (liveOf x.ns)] 218 (0, 0)) ∧
  w.ownsRow 0 209 33 (.slice (some ⟨x.nb, 0, none⟩) x.ns.length x.cap) x.ns.length (cellsOf x.ns) ∧ (∀ h, some h ∈ x.ns → IsHash h) ∧ x.cap ≤ maxLen

/-- A store's numbers, blocks, chunks and pins. -/
structure SS where
  log : Nat
  n : Nat
  cm : Nat
  pm : Nat
  cks : List Ck
  pins : List (Nat × Nat)

def SS.alive (s : SS) : Nat := (s.cks.map fun x => liveOf x.ns).sum
def SS.foot (s : SS) (b : Nat) : List Nat := b :: s.cm :: s.pm :: s.cks.flatMap fun x => [x.c, x.nb]
/-- A place's chunk, and where it is in it. -/
def qk (log p : Nat) : Nat := p / 2 ^ log
def qa (log p : Nat) : Nat := p % 2 ^ log
def SS.look (s : SS) (p : Nat) : Option Ck := s.cks.find? fun x => decide (x.k = qk s.log p)
def SS.node (s : SS) (p : Nat) : Option (Array Value) := (s.look p).bind fun x => (x.ns[qa s.log p]?).join
def SS.pin (s : SS) (p : Nat) : Nat := ((s.pins.find? fun x => decide (x.1 = p)).map (·.2)).getD 0
structure SS.ok (s : SS) : Prop where
  log : s.log ≤ 16
  n : s.n < 18446744073709551616
  key : ∀ x ∈ s.cks, x.ns.length ≤ 2 ^ s.log ∧ 0 < liveOf x.ns ∧ x.k * 2 ^ s.log < 18446744073709551616
  pin : ∀ x ∈ s.pins, 0 < x.2 ∧ x.2 < 4294967296
  top : ∀ p, (s.node p).isSome = true → p < s.n
  al : s.alive ≤ 1099511627776

structure SS.apart (s : SS) (b : Nat) : Prop where
  head : b ≠ s.cm ∧ b ≠ s.pm ∧ s.cm ≠ s.pm
  each : ∀ x ∈ s.cks, x.c ≠ x.nb ∧ x.c ≠ b ∧ x.c ≠ s.cm ∧ x.c ≠ s.pm ∧ x.nb ≠ b ∧ x.nb ≠ s.cm ∧ x.nb ≠ s.pm
  two : s.cks.Pairwise fun x y => x.c ≠ y.c ∧ x.c ≠ y.nb ∧ x.nb ≠ y.c ∧ x.nb ≠ y.nb

def StIs (w : World) (b : Nat) (s : SS) : Prop :=
  w.heap[b]? = some (.cells #[.int .i64 s.log, .int .u64 s.n, .int .u64 s.alive, .map (some s.cm), .map (some s.pm)] 150 (0, 0)) ∧
  MapIs encK w s.cm (s.cks.map fun x => (x.k, .pointer (some ⟨x.c, 0, none⟩))) ∧
  MapIs encU w s.pm (s.pins.map fun x => (x.1, .int .i64 x.2)) ∧
  (∀ x ∈ s.cks, CkIs w x) ∧ s.apart b ∧ s.ok

/-- What was the object's, or is new, is the object's now; all else is as it was. -/
def Mv (F F' : List Nat) (w w' : World) : Prop := Chg F w w' ∧ ∀ k ∈ F', k ∈ F ∨ w.heap.size ≤ k

theorem CkIs.chg {w w' : World} {x : Ck} {F : List Nat} (h : CkIs w x) (hc : Chg F w w') (h1 : x.c ∉ F) (h2 : x.nb ∉ F) : CkIs w' x := by
  refine ⟨hc.at h.1 h1, ?_, h.2.2⟩
  obtain ⟨hl, hr | ⟨g, cap, cur, hv, hb, hg, rest⟩⟩ := h.2.1
  · exact ⟨hl, .inl hr⟩
  · refine ⟨hl, .inr ⟨g, cap, cur, hv, hb, hc.at hg ?_, rest⟩⟩
    simp at hv
    rw [← hv.1]; exact h2

theorem StIs.chg {w w' : World} {b : Nat} {s : SS} {F : List Nat} (h : StIs w b s) (hc : Chg F w w') (hF : ∀ k ∈ s.foot b, k ∉ F) : StIs w' b s := by
  obtain ⟨h1, h2, h3, h4, h5⟩ := h
  refine ⟨hc.at h1 (hF _ (by simp [SS.foot])), h2.chg hc (hF _ (by simp [SS.foot])), h3.chg hc (hF _ (by simp [SS.foot])), ?_, h5⟩
  intro x hx
  exact (h4 x hx).chg hc (hF _ (by simp [SS.foot]; exact .inr (.inr (.inr ⟨x, hx, .inl rfl⟩)))) (hF _ (by simp [SS.foot]; exact .inr (.inr (.inr ⟨x, hx, .inr rfl⟩))))
theorem StIs.chg0 {w w' : World} {b : Nat} {s : SS} (h : StIs w b s) (hc : Chg [] w w') : StIs w' b s := h.chg hc (by simp)

theorem StIs.lt {w : World} {b : Nat} {s : SS} (h : StIs w b s) : ∀ k ∈ s.foot b, k < w.heap.size := by
  obtain ⟨h1, h2, h3, h4, h5⟩ := h
  intro k hk
  simp only [SS.foot, List.mem_cons, List.mem_flatMap, List.not_mem_nil, or_false] at hk
  rcases hk with rfl | rfl | rfl | ⟨x, hx, rfl | rfl⟩
  · exact blk_lt h1
  · exact h2.lt
  · exact h3.lt
  · exact blk_lt (h4 x hx).1
  · exact ((h4 x hx).2.1.lt _ rfl).2
end Go.Proofs.YtpklkefnmoaaaaaGreatDoor

/- Hashes: one with a byte, and when two are the same. -/
namespace Go.Proofs.YtpklkefnmoaaaaaGreatDoor
open Go.RowKit
open Go.Extern.Stop (cell)
set_option linter.unusedVariables false
set_option linter.unusedSimpArgs false

def hb (x : Array Value) : List Int := x.toList.map intOf
def eqH (x y : Array Value) : Bool := decide (hb x = hb y)

theorem IsHash.bytes {x : Array Value} (h : IsHash x) : ∃ xs : List UInt8, x = (xs.map cell).toArray ∧ xs.length = 32 := by
  obtain ⟨hs, hv⟩ := h
  have : ∀ l : List Value, (∀ v ∈ l, ∃ n : Int, v = .int .u8 n ∧ 0 ≤ n ∧ n < 256) → ∃ xs : List UInt8, l = xs.map cell := by
    intro l
    induction l with
    | nil => intro _; exact ⟨[], rfl⟩
    | cons v l ih =>
      intro hl
      obtain ⟨n, rfl, h0, h1⟩ := hl v (by simp)
      obtain ⟨xs, rfl⟩ := ih (fun v hv => hl v (by simp [hv]))
      refine ⟨UInt8.ofNat n.toNat :: xs, ?_⟩
      simp only [List.map_cons, List.cons.injEq, and_true, cell]
      congr 1
      simp
      omega
  obtain ⟨xs, hx⟩ := this x.toList hv
  refine ⟨xs, by rw [← hx], ?_⟩
  have := congrArg List.length hx
  simp at this
  omega

theorem hb_cells (xs : List UInt8) : hb (xs.map cell).toArray = xs.map fun c => (c.toNat : Int) := by
  unfold hb
  simp only [List.map_map]
  rfl
theorem map_inj (xs ys : List UInt8) : (xs.map fun c => (c.toNat : Int)) = (ys.map fun c => (c.toNat : Int)) ↔ xs = ys := by
  constructor
  · intro h
    induction xs generalizing ys with
    | nil => cases ys with
      | nil => rfl
      | cons _ _ => simp at h
    | cons x xs ih => cases ys with
      | nil => simp at h
      | cons y ys =>
        simp only [List.map_cons, List.cons.injEq] at h
        have h1 : x.toNat = y.toNat := by omega
        rw [UInt8.toNat_inj.1 h1, ih ys h.2]
  · rintro rfl; rfl
theorem eqH_iff {x y : Array Value} (hx : IsHash x) (hy : IsHash y) : eqH x y = true ↔ x = y := by
  obtain ⟨xs, rfl, _⟩ := hx.bytes
  obtain ⟨ys, rfl, _⟩ := hy.bytes
  unfold eqH
  rw [decide_eq_true_iff, hb_cells, hb_cells, map_inj]
  constructor
  · rintro rfl; rfl
  · intro h
    have : hb (xs.map cell).toArray = hb (ys.map cell).toArray := by rw [h]
    rw [hb_cells, hb_cells, map_inj] at this
    exact this
theorem eqH_self {x : Array Value} : eqH x x = true := by simp [eqH]

theorem u_u8 : Tryz.prog.underlying 5 = some (.int .u8) := by kernel_rfl
@[go_sem] theorem eq_Hash (x y : Array Value) (hx : IsHash x) (hy : IsHash y) (w : World) : (Op.equalIn 10000 36 (.agg x) (.agg y)).run Tryz.prog w = .ok (eqH x y) w := by
  have e := eqH_iff hx hy
  obtain ⟨xs, rfl, h1⟩ := hx.bytes
  obtain ⟨ys, rfl, h2⟩ := hy.bytes
  rw [run_equalIn_bytes w 9998 36 5 32 u_Hash u_u8 (fun w => by kernel_rfl) xs ys h1 h2]
  congr 1
  unfold eqH
  rw [hb_cells, hb_cells, Bool.eq_iff_iff, decide_eq_true_iff, map_inj]
  simp

/-- The hash with one byte ahead of zeros. -/
def hash1 (n : Int) : Array Value := zeroHash.setIfInBounds 0 (.int .u8 n)
theorem hash1_is {n : Int} (h0 : 0 ≤ n) (h1 : n < 256) : IsHash (hash1 n) := by
  refine ⟨by simp [hash1, zeroHash_size], ?_⟩
  intro v hv
  unfold hash1 at hv
  rw [Array.toList_setIfInBounds] at hv
  rcases List.mem_or_eq_of_mem_set hv with h | h
  · exact zeroHash_is.2 v h
  · exact ⟨n, h, h0, h1⟩
theorem hash1_size (n : Int) : (hash1 n).size = 32 := by simp [hash1, zeroHash_size]
@[go_sem] theorem bd_Hash1 (n : Int) (w : World) : (bdX 36 #[(0, .int .u8 n)]).run Tryz.prog w = .ok (.agg (hash1 n)) w := by
  have h32 : ∀ w, (sizeOf 5).run Tryz.prog w = .ok 1 w := fun w => by kernel_rfl
  unfold bdX Instr.build
  simp only [Sem.run_bind, zv_Hash, run_underlying u_Hash, Result.andThen_ok, h32, Value.cells]
  rw [fill_part _ _ 0 0 1 (.int .u8 n) _ rfl rfl (by rw [zeroHash_size]; omega)]
  simp only [Instr.fill, Sem.run_pure, Result.ok.injEq, and_true, Value.agg.injEq]
  apply Array.toList_inj.1
  unfold hash1
  rw [Array.toList_setIfInBounds, List.set_eq_take_append_cons_drop, if_pos (by simp [zeroHash_size])]
  simp [Value.cells]

/-- A list of hashes that came in. -/
def HsIs (w : World) (v : Value) (hs : List (Array Value)) : Prop :=
  (∀ h ∈ hs, IsHash h) ∧ ∃ a cap, v = .slice a hs.length cap ∧ (hs = [] ∨ ∃ b o, a = some ⟨b, o, none⟩ ∧ b < w.heap.size ∧ ∀ i (hi : i < hs.length), rng? w b (o + i * 32) 32 = some hs[i])
theorem HsIs.chg {w w' : World} {v : Value} {hs : List (Array Value)} {F : List Nat} (h : HsIs w v hs) (hc : Chg F w w') (hF : ∀ k ∈ F, w.heap.size ≤ k) : HsIs w' v hs := by
  obtain ⟨h1, a, cap, hv, h2⟩ := h
  refine ⟨h1, a, cap, hv, ?_⟩
  rcases h2 with h2 | ⟨b, o, ha, hb, hr⟩
  · exact .inl h2
  · refine .inr ⟨b, o, ha, by have := hc.size; omega, fun i hi => rng?_chg hc (hr i hi) (by omega) (fun e => by have := hF _ e; omega)⟩
end Go.Proofs.YtpklkefnmoaaaaaGreatDoor

/- The hash: the walk's rules on its wide values; cut. -/
namespace Go.Proofs.YtpklkefnmoaaaaaGreatDoor
open Go.RowKit Go.Lib
set_option linter.unusedVariables false
set_option linter.unusedSimpArgs false

/-- Bytes, words as cells. -/
def hV (l : List Nat) : Array Value := (l.map fun (n : Nat) => Value.int .u8 (n : Int)).toArray
def wV (l : List Nat) : Array Value := (l.map fun (n : Nat) => Value.int .u32 (n : Int)).toArray
@[go_sem] theorem hV_size (l : List Nat) : (hV l).size = l.length := by simp [hV]
@[go_sem] theorem wV_size (l : List Nat) : (wV l).size = l.length := by simp [wV]
@[go_sem] theorem hV_one (l : List Nat) : one1 (hV l) = true := by
  unfold one1 hV
  rw [Array.all_eq_true_iff_forall_mem]
  intro v hv
  simp at hv
  obtain ⟨n, _, rfl⟩ := hv
  rfl
@[go_sem] theorem wV_one (l : List Nat) : one1 (wV l) = true := by
  unfold one1 wV
  rw [Array.all_eq_true_iff_forall_mem]
  intro v hv
  simp at hv
  obtain ⟨n, _, rfl⟩ := hv
  rfl
theorem hV_at (l : List Nat) (i : Nat) (h : i < l.length) : (hV l)[i]? = some (.int .u8 (l.getD i 0)) := by simp [hV, h]
theorem wV_at (l : List Nat) (i : Nat) (h : i < l.length) : (wV l)[i]? = some (.int .u32 (l.getD i 0)) := by simp [wV, h]
theorem hV_set (l : List Nat) (i x : Nat) : (hV l).setIfInBounds i (.int .u8 x) = hV (l.set i x) := by
  unfold hV
  apply Array.toList_inj.1
  simp [List.map_set]
theorem wV_set (l : List Nat) (i x : Nat) : (wV l).setIfInBounds i (.int .u32 x) = wV (l.set i x) := by
  unfold wV
  apply Array.toList_inj.1
  simp [List.map_set]
theorem hV_is (l : List Nat) (h : l.length = 32) (hb : ∀ x ∈ l, x < 256) : IsHash (hV l) := by
  refine ⟨by rw [hV_size, h], fun v hv => ?_⟩
  simp [hV] at hv
  obtain ⟨n, hn, rfl⟩ := hv
  exact ⟨n, rfl, by omega, by have := hb n hn; omega⟩
theorem IsHash.nats {x : Array Value} (h : IsHash x) : ∃ l : List Nat, x = hV l ∧ l.length = 32 ∧ ∀ n ∈ l, n < 256 := by
  obtain ⟨xs, rfl, hl⟩ := h.bytes
  refine ⟨xs.map (·.toNat), ?_, by simpa using hl, ?_⟩
  · unfold hV
    simp only [List.map_map]
    rfl
  · intro n hn
    obtain ⟨c, _, rfl⟩ := List.mem_map.1 hn
    exact c.toNat_lt
theorem bytes_all (l : List Nat) (hb : ∀ x ∈ l, x < 256) : ∀ j, l.getD j 0 < 256 := by
  intro j
  rw [List.getD_eq_getElem?_getD]
  rcases Nat.lt_or_ge j l.length with h | h
  · rw [List.getElem?_eq_getElem h]
    exact hb _ (List.getElem_mem h)
  · rw [List.getElem?_eq_none h]
    decide
theorem zero_hV : zeroHash = hV (List.replicate 32 0) := by kernel_rfl
def zero_a64b : Array Value := hV (List.replicate 64 0)
@[go_sem] theorem zero_a64b_size : zero_a64b.size = 64 := by simp [zero_a64b, hV]
@[go_sem] theorem zero_a64b_one : one1 zero_a64b = true := hV_one _
@[go_sem ↓] theorem hold_ld_a64b (x : Value) : Instr.loadAt 260 x = ldX 260 x := rfl
@[go_sem ↓] theorem hold_lv_a64b (a : Addr) : loadVar 260 a = lvX 260 a := rfl
@[go_sem ↓] theorem hold_st_a64b (x v : Value) : Instr.storeAt 260 x v = stX 260 x v := rfl
theorem u_a64b : Tryz.prog.underlying 260 = some (.array 64 5) := by kernel_rfl
@[go_sem] theorem ld_a64b (b o : Nat) (w : World) : (ldX 260 (.pointer (some ⟨b, o, none⟩))).run Tryz.prog w = ldR Tryz.prog 260 b o w (rng? w b o 64) := run_ldR _ _ 64 u_a64b rfl (by kernel_rfl) b o w
@[go_sem] theorem lv_a64b (b o : Nat) (w : World) : (lvX 260 ⟨b, o, none⟩).run Tryz.prog w = ldR Tryz.prog 260 b o w (rng? w b o 64) := run_lvR _ _ 64 u_a64b rfl (by kernel_rfl) b o w
@[go_sem] theorem st_a64b (b o : Nat) (cs : Array Value) (w : World) : (stX 260 (.pointer (some ⟨b, o, none⟩)) (.agg cs)).run Tryz.prog w = stR Tryz.prog 260 b o cs w (may w b o 64 && decide (cs.size = 64) && one1 cs) := run_stR _ 64 (by kernel_rfl) b o cs w
@[go_sem ↓] theorem zv_a64b (w : World) : (zeroValue 260).run Tryz.prog w = .ok (.agg zero_a64b) w := by kernel_rfl
def zero_a64w : Array Value := wV (List.replicate 64 0)
@[go_sem] theorem zero_a64w_size : zero_a64w.size = 64 := by simp [zero_a64w, wV]
@[go_sem] theorem zero_a64w_one : one1 zero_a64w = true := wV_one _
@[go_sem ↓] theorem hold_ld_a64w (x : Value) : Instr.loadAt 288 x = ldX 288 x := rfl
@[go_sem ↓] theorem hold_lv_a64w (a : Addr) : loadVar 288 a = lvX 288 a := rfl
@[go_sem ↓] theorem hold_st_a64w (x v : Value) : Instr.storeAt 288 x v = stX 288 x v := rfl
theorem u_a64w : Tryz.prog.underlying 288 = some (.array 64 276) := by kernel_rfl
@[go_sem] theorem ld_a64w (b o : Nat) (w : World) : (ldX 288 (.pointer (some ⟨b, o, none⟩))).run Tryz.prog w = ldR Tryz.prog 288 b o w (rng? w b o 64) := run_ldR _ _ 64 u_a64w rfl (by kernel_rfl) b o w
@[go_sem] theorem lv_a64w (b o : Nat) (w : World) : (lvX 288 ⟨b, o, none⟩).run Tryz.prog w = ldR Tryz.prog 288 b o w (rng? w b o 64) := run_lvR _ _ 64 u_a64w rfl (by kernel_rfl) b o w
@[go_sem] theorem st_a64w (b o : Nat) (cs : Array Value) (w : World) : (stX 288 (.pointer (some ⟨b, o, none⟩)) (.agg cs)).run Tryz.prog w = stR Tryz.prog 288 b o cs w (may w b o 64 && decide (cs.size = 64) && one1 cs) := run_stR _ 64 (by kernel_rfl) b o cs w
@[go_sem ↓] theorem zv_a64w (w : World) : (zeroValue 288).run Tryz.prog w = .ok (.agg zero_a64w) w := by kernel_rfl
def zero_a8w : Array Value := wV (List.replicate 8 0)
@[go_sem] theorem zero_a8w_size : zero_a8w.size = 8 := by simp [zero_a8w, wV]
@[go_sem] theorem zero_a8w_one : one1 zero_a8w = true := wV_one _
@[go_sem ↓] theorem hold_ld_a8w (x : Value) : Instr.loadAt 291 x = ldX 291 x := rfl
@[go_sem ↓] theorem hold_lv_a8w (a : Addr) : loadVar 291 a = lvX 291 a := rfl
@[go_sem ↓] theorem hold_st_a8w (x v : Value) : Instr.storeAt 291 x v = stX 291 x v := rfl
theorem u_a8w : Tryz.prog.underlying 291 = some (.array 8 276) := by kernel_rfl
@[go_sem] theorem ld_a8w (b o : Nat) (w : World) : (ldX 291 (.pointer (some ⟨b, o, none⟩))).run Tryz.prog w = ldR Tryz.prog 291 b o w (rng? w b o 8) := run_ldR _ _ 8 u_a8w rfl (by kernel_rfl) b o w
@[go_sem] theorem lv_a8w (b o : Nat) (w : World) : (lvX 291 ⟨b, o, none⟩).run Tryz.prog w = ldR Tryz.prog 291 b o w (rng? w b o 8) := run_lvR _ _ 8 u_a8w rfl (by kernel_rfl) b o w
@[go_sem] theorem st_a8w (b o : Nat) (cs : Array Value) (w : World) : (stX 291 (.pointer (some ⟨b, o, none⟩)) (.agg cs)).run Tryz.prog w = stR Tryz.prog 291 b o cs w (may w b o 8 && decide (cs.size = 8) && one1 cs) := run_stR _ 8 (by kernel_rfl) b o cs w
@[go_sem ↓] theorem zv_a8w (w : World) : (zeroValue 291).run Tryz.prog w = .ok (.agg zero_a8w) w := by kernel_rfl
def clX (ts : Array TypeId) (ty : TypeId) (xs : Array Value) : Sem Value := Builtin.clear_ ts ty xs
@[go_sem ↓] theorem hold_cl (ts : Array TypeId) (ty : TypeId) (xs : Array Value) : Builtin.clear_ ts ty xs = clX ts ty xs := rfl

theorem cut_length (w : Int) (l : List Nat) (h : l.length = 32) : (cutN w l).length = 32 := by
  unfold cutN widthN
  simp
  omega
theorem cut_lt (w : Int) (l : List Nat) (hb : ∀ x ∈ l, x < 256) : ∀ x ∈ cutN w l, x < 256 := by
  intro x hx
  unfold cutN at hx
  rcases List.mem_append.1 hx with h | h
  · exact hb x (List.mem_of_mem_take h)
  · rw [List.eq_of_mem_replicate h]; decide
theorem clear_hash (w : World) (b k : Nat) (l : List Nat) (t : TypeId) (h : w.heap[b]? = some (.cells (hV l) t (0, 0))) (hl : l.length = 32) (hk : k < 32) (ty : TypeId) :
    (clX #[37] ty #[.slice (some ⟨b, k, none⟩) (32 - k) (32 - k)]).run Tryz.prog w = .ok (.tuple #[]) (setRng w b k (hV (List.replicate (32 - k) 0))) ∧ (setRng w b k (hV (List.replicate (32 - k) 0))).heap[b]? = some (.cells (hV (l.take k ++ List.replicate (l.length - k) 0)) t (0, 0)) := by
  constructor
  · have hz : ∀ w, (zeroValue 5).run Tryz.prog w = .ok (.int .u8 0) w := fun w => by kernel_rfl
    have := run_clear_slice (P := Tryz.prog) w 37 5 ty (.int .u8 0) u_bytes hz rfl rfl b k (32 - k) (32 - k) (by omega)
      (fun j hj => by rw [blk_cell h (k + j) (hV_at l (k + j) (by omega))]; rfl) (fun j hj => blk_frozen h _)
    unfold clX
    rw [this]
    simp [setRng, hV]
  · rw [setRng_heap h k _ (by rw [hV_size, hV_size, List.length_replicate]; omega)]
    congr 2
    apply Array.toList_inj.1
    simp [hV, hl, List.map_take]
    omega
theorem hash_rng {w : World} {b : Nat} {l : List Nat} {t : TypeId} (h : w.heap[b]? = some (.cells (hV l) t (0, 0))) (hl : l.length = 32) : rng? w b 0 32 = some (hV l) := rng?_row h (by rw [hV_size, hl])
def slX (t : TypeId) (x l : Value) : Sem Value := Instr.sliceAt t x (some l) none none
@[go_sem ↓] theorem hold_sl_Hash (x l : Value) : Instr.sliceAt 36 x (some l) none none = slX 36 x l := rfl
@[go_sem ↓] theorem hold_sl_a64b (x l : Value) : Instr.sliceAt 260 x (some l) none none = slX 260 x l := rfl
theorem slX_run (t : TypeId) (n : Nat) (hu : Tryz.prog.underlying t = some (.array n 5)) (b o k : Nat) (hk : k < n) (w : World) :
    (slX t (.pointer (some ⟨b, o, none⟩)) (.int .i64 k)).run Tryz.prog w = .ok (.slice (some ⟨b, o + k, none⟩) (n - k) (n - k)) w := by
  have hz : ∀ w, (sizeOf 5).run Tryz.prog w = .ok 1 w := fun w => by kernel_rfl
  have e : ¬ n = k := by omega
  have e1 : ¬ ((k : Int) > (n : Int)) := by omega
  have e2 : ¬ ((k : Int) < 0) := by omega
  unfold slX Instr.sliceAt
  simp [go_sem, run_underlying hu, Instr.sureAddr, Instr.sliceBounds, hz, e, e1, e2, Addr.add, Nat.le_of_lt hk]
theorem slX_end (t : TypeId) (n : Nat) (hu : Tryz.prog.underlying t = some (.array n 5)) (b o : Nat) (w : World) :
    (slX t (.pointer (some ⟨b, o, none⟩)) (.int .i64 n)).run Tryz.prog w = .ok (.slice (some ⟨b, o, none⟩) 0 0) w := by
  have hz : ∀ w, (sizeOf 5).run Tryz.prog w = .ok 1 w := fun w => by kernel_rfl
  unfold slX Instr.sliceAt
  simp [go_sem, run_underlying hu, Instr.sureAddr, Instr.sliceBounds, hz]
theorem clear_none (ty : TypeId) (a : Option Addr) (w : World) : (clX #[37] ty #[.slice a 0 0]).run Tryz.prog w = .ok (.tuple #[]) w := by
  unfold clX Builtin.clear_
  cases a <;> simp [go_sem, run_underlying u_bytes]
theorem may_hash2 (w : World) (l : List Nat) : may ((w.alloc (.cells (hV l) 36)).alloc (.cells zeroHash 36)) (w.heap.size + 1) 0 32 = true := by
  have h := blk_new (w.alloc (.cells (hV l) 36)) (.cells zeroHash 36)
  rw [show (w.alloc (.cells (hV l) 36)).heap.size = w.heap.size + 1 from by simp] at h
  exact may_row 0 32 h (by rw [zeroHash_size]; omega)
theorem rng_hash2 (w : World) (o : Obj) (l : List Nat) (hl : l.length = 32) : rng? ((w.alloc o).alloc (.cells (hV l) 36)) (w.heap.size + 1) 0 32 = some (hV l) := by
  have h := blk_new (w.alloc o) (.cells (hV l) 36)
  rw [show (w.alloc o).heap.size = w.heap.size + 1 from by simp] at h
  exact hash_rng h hl
set_option maxRecDepth 100000 in
theorem cut_calls (w : World) (wd : Int) (l : List Nat) (hs : l.length = 32) :
    Calls Tryz.prog 235 #[.int .i64 wd, .agg (hV l)] w fun e w' => e = .returned (.agg (hV (cutN wd l))) ∧ Chg [] w w' := by
  have hk : (wd < 1 ∧ widthN wd = 1) ∨ (wd = 1 ∧ widthN wd = 1) ∨ (1 < wd ∧ wd < 32 ∧ (widthN wd : Int) = wd) ∨ (wd = 32 ∧ widthN wd = 32) ∨ (32 < wd ∧ widthN wd = 32) := by
    unfold widthN
    omega
  rcases hk with ⟨g1, g2⟩ | ⟨g1, g2⟩ | ⟨g1, g2, g3⟩ | ⟨g1, g2⟩ | ⟨g1, g2⟩
  · skip
    have hs1 : (slX 36 (.pointer (some ⟨w.heap.size, 0, none⟩)) (.int .i64 1)).run Tryz.prog ((w.alloc (.cells (hV l) 36)).alloc (.cells zeroHash 36)) = .ok (.slice (some ⟨w.heap.size, 1, none⟩) 31 31) ((w.alloc (.cells (hV l) 36)).alloc (.cells zeroHash 36)) := by
      have := slX_run 36 32 u_Hash w.heap.size 0 1 (by omega) ((w.alloc (.cells (hV l) 36)).alloc (.cells zeroHash 36))
      rw [Nat.zero_add] at this
      exact this
    obtain ⟨hc1, hc2⟩ := clear_hash ((w.alloc (.cells (hV l) 36)).alloc (.cells zeroHash 36)) w.heap.size 1 l 36 (blk_alloc (blk_new w _) _) hs (by omega) 0
    have E : cutN wd l = l.take 1 ++ List.replicate (l.length - 1) 0 := by
      unfold cutN
      rw [g2]
    have hc3 := hash_rng hc2 (by simp [hs] <;> omega)
    rw [← E] at hc3
    have hm1 := may_hash2 w l
    have hm2 := may_setRng ((w.alloc (.cells (hV l) 36)).alloc (.cells zeroHash 36)) (w.heap.size + 1) 0 32 w.heap.size 1 (hV (List.replicate 31 0)) hm1
    have hch : Chg [] w (setRng ((w.alloc (.cells (hV l) 36)).alloc (.cells zeroHash 36)) w.heap.size 1 (hV (List.replicate 31 0))) := (((Chg.refl _ _).alloc _).alloc _).setRng (.inr (Nat.le_refl _)) _ _
    have hlen := cut_length wd l hs
    clear hm1 hc2 E
    generalize setRng ((w.alloc (.cells (hV l) 36)).alloc (.cells zeroHash 36)) w.heap.size 1 (hV (List.replicate 31 0)) = w2 at *
    have hlen2 : (hV (cutN wd l)).size = 32 := by rw [hV_size, hlen]
    go_enter Tryz.func235, Tryz.ntmps235
    go_wp2
    refine bodyPost_ret (res_Hash1 rfl _ _ rfl (rng?_setRng_same _ _ _ _ _ hm2 (by rw [hV_size]; exact hlen))) rfl ⟨rfl, ?_⟩
    exact hch.setRng (.inr (by simp)) _ _
  · skip
    subst g1
    have hs1 : (slX 36 (.pointer (some ⟨w.heap.size, 0, none⟩)) (.int .i64 1)).run Tryz.prog ((w.alloc (.cells (hV l) 36)).alloc (.cells zeroHash 36)) = .ok (.slice (some ⟨w.heap.size, 1, none⟩) 31 31) ((w.alloc (.cells (hV l) 36)).alloc (.cells zeroHash 36)) := by
      have := slX_run 36 32 u_Hash w.heap.size 0 1 (by omega) ((w.alloc (.cells (hV l) 36)).alloc (.cells zeroHash 36))
      rw [Nat.zero_add] at this
      exact this
    obtain ⟨hc1, hc2⟩ := clear_hash ((w.alloc (.cells (hV l) 36)).alloc (.cells zeroHash 36)) w.heap.size 1 l 36 (blk_alloc (blk_new w _) _) hs (by omega) 0
    have E : cutN 1 l = l.take 1 ++ List.replicate (l.length - 1) 0 := by
      unfold cutN
      rw [g2]
    have hc3 := hash_rng hc2 (by simp [hs] <;> omega)
    rw [← E] at hc3
    have hm1 := may_hash2 w l
    have hm2 := may_setRng ((w.alloc (.cells (hV l) 36)).alloc (.cells zeroHash 36)) (w.heap.size + 1) 0 32 w.heap.size 1 (hV (List.replicate 31 0)) hm1
    have hch : Chg [] w (setRng ((w.alloc (.cells (hV l) 36)).alloc (.cells zeroHash 36)) w.heap.size 1 (hV (List.replicate 31 0))) := (((Chg.refl _ _).alloc _).alloc _).setRng (.inr (Nat.le_refl _)) _ _
    have hlen := cut_length 1 l hs
    clear hm1 hc2 E
    generalize setRng ((w.alloc (.cells (hV l) 36)).alloc (.cells zeroHash 36)) w.heap.size 1 (hV (List.replicate 31 0)) = w2 at *
    have hlen2 : (hV (cutN 1 l)).size = 32 := by rw [hV_size, hlen]
    go_enter Tryz.func235, Tryz.ntmps235
    go_wp2
    refine bodyPost_ret (res_Hash1 rfl _ _ rfl (rng?_setRng_same _ _ _ _ _ hm2 (by rw [hV_size]; exact hlen))) rfl ⟨rfl, ?_⟩
    exact hch.setRng (.inr (by simp)) _ _
  · obtain ⟨k, rfl⟩ : ∃ k : Nat, wd = k := ⟨wd.toNat, by omega⟩
    have hk32 : k < 32 := by omega
    have g2 : widthN (k : Int) = k := by omega
    have hs1 : (slX 36 (.pointer (some ⟨w.heap.size, 0, none⟩)) (.int .i64 k)).run Tryz.prog ((w.alloc (.cells (hV l) 36)).alloc (.cells zeroHash 36)) = .ok (.slice (some ⟨w.heap.size, k, none⟩) (32 - k) (32 - k)) ((w.alloc (.cells (hV l) 36)).alloc (.cells zeroHash 36)) := by
      have := slX_run 36 32 u_Hash w.heap.size 0 k (by omega) ((w.alloc (.cells (hV l) 36)).alloc (.cells zeroHash 36))
      rw [Nat.zero_add] at this
      exact this
    obtain ⟨hc1, hc2⟩ := clear_hash ((w.alloc (.cells (hV l) 36)).alloc (.cells zeroHash 36)) w.heap.size k l 36 (blk_alloc (blk_new w _) _) hs (by omega) 0
    have E : cutN (k : Int) l = l.take k ++ List.replicate (l.length - k) 0 := by
      unfold cutN
      rw [g2]
    have hc3 := hash_rng hc2 (by simp [hs] <;> omega)
    rw [← E] at hc3
    have hm1 := may_hash2 w l
    have hm2 := may_setRng ((w.alloc (.cells (hV l) 36)).alloc (.cells zeroHash 36)) (w.heap.size + 1) 0 32 w.heap.size k (hV (List.replicate (32 - k) 0)) hm1
    have hch : Chg [] w (setRng ((w.alloc (.cells (hV l) 36)).alloc (.cells zeroHash 36)) w.heap.size k (hV (List.replicate (32 - k) 0))) := (((Chg.refl _ _).alloc _).alloc _).setRng (.inr (Nat.le_refl _)) _ _
    have hlen := cut_length (k : Int) l hs
    clear hm1 hc2 E
    generalize setRng ((w.alloc (.cells (hV l) 36)).alloc (.cells zeroHash 36)) w.heap.size k (hV (List.replicate (32 - k) 0)) = w2 at *
    have hlen2 : (hV (cutN (k : Int) l)).size = 32 := by rw [hV_size, hlen]
    have d1 : decide ((k : Int) < 1) = false := decide_eq_false (by omega)
    have d2 : decide ((k : Int) < 32) = true := decide_eq_true (by omega)
    go_enter Tryz.func235, Tryz.ntmps235
    go_wp2
    refine bodyPost_ret (res_Hash1 rfl _ _ rfl (rng?_setRng_same _ _ _ _ _ hm2 (by rw [hV_size]; exact hlen))) rfl ⟨rfl, ?_⟩
    exact hch.setRng (.inr (by simp)) _ _
  · subst g1
    have hm1 := may_hash2 w l
    have hs1 : (slX 36 (.pointer (some ⟨w.heap.size, 0, none⟩)) (.int .i64 32)).run Tryz.prog ((w.alloc (.cells (hV l) 36)).alloc (.cells zeroHash 36)) = .ok (.slice (some ⟨w.heap.size, 0, none⟩) 0 0) ((w.alloc (.cells (hV l) 36)).alloc (.cells zeroHash 36)) :=
      slX_end 36 32 u_Hash w.heap.size 0 ((w.alloc (.cells (hV l) 36)).alloc (.cells zeroHash 36))
    have hc1 := clear_none 0 (some ⟨w.heap.size, 0, none⟩) ((w.alloc (.cells (hV l) 36)).alloc (.cells zeroHash 36))
    have E : cutN 32 l = l := by
      unfold cutN
      rw [g2, List.take_of_length_le (by omega), hs]
      simp
    rw [E]
    go_enter Tryz.func235, Tryz.ntmps235
    go_wp2
    refine bodyPost_ret (res_Hash1 rfl _ _ rfl (rng_hash2 w _ l hs)) rfl ⟨rfl, ?_⟩
    exact ((Chg.refl _ _).alloc _).alloc _
  · skip
    have hm1 := may_hash2 w l
    have hs1 : (slX 36 (.pointer (some ⟨w.heap.size, 0, none⟩)) (.int .i64 32)).run Tryz.prog ((w.alloc (.cells (hV l) 36)).alloc (.cells zeroHash 36)) = .ok (.slice (some ⟨w.heap.size, 0, none⟩) 0 0) ((w.alloc (.cells (hV l) 36)).alloc (.cells zeroHash 36)) :=
      slX_end 36 32 u_Hash w.heap.size 0 ((w.alloc (.cells (hV l) 36)).alloc (.cells zeroHash 36))
    have hc1 := clear_none 0 (some ⟨w.heap.size, 0, none⟩) ((w.alloc (.cells (hV l) 36)).alloc (.cells zeroHash 36))
    have E : cutN wd l = l := by
      unfold cutN
      rw [g2, List.take_of_length_le (by omega), hs]
      simp
    rw [E]
    go_enter Tryz.func235, Tryz.ntmps235
    go_wp2
    refine bodyPost_ret (res_Hash1 rfl _ _ rfl (rng_hash2 w _ l hs)) rfl ⟨rfl, ?_⟩
    exact ((Chg.refl _ _).alloc _).alloc _
end Go.Proofs.YtpklkefnmoaaaaaGreatDoor

/- The hash: one step, the memory and the plain part. -/
namespace Go.Proofs.YtpklkefnmoaaaaaGreatDoor
open Go.RowKit
set_option linter.unusedVariables false
set_option linter.unusedSimpArgs false

theorem rot2 (x : Nat) (hx : x < 4294967296) (w : World) : Calls Tryz.prog 269 #[.int .u32 x, .int .i64 2] w fun e w' => e = .returned (.int .u32 (rotrN x 2)) ∧ w' = w := rotr_calls x 2 hx (by simp) w
theorem rot6 (x : Nat) (hx : x < 4294967296) (w : World) : Calls Tryz.prog 269 #[.int .u32 x, .int .i64 6] w fun e w' => e = .returned (.int .u32 (rotrN x 6)) ∧ w' = w := rotr_calls x 6 hx (by simp) w
theorem rot7 (x : Nat) (hx : x < 4294967296) (w : World) : Calls Tryz.prog 269 #[.int .u32 x, .int .i64 7] w fun e w' => e = .returned (.int .u32 (rotrN x 7)) ∧ w' = w := rotr_calls x 7 hx (by simp) w
theorem rot11 (x : Nat) (hx : x < 4294967296) (w : World) : Calls Tryz.prog 269 #[.int .u32 x, .int .i64 11] w fun e w' => e = .returned (.int .u32 (rotrN x 11)) ∧ w' = w := rotr_calls x 11 hx (by simp) w
theorem rot13 (x : Nat) (hx : x < 4294967296) (w : World) : Calls Tryz.prog 269 #[.int .u32 x, .int .i64 13] w fun e w' => e = .returned (.int .u32 (rotrN x 13)) ∧ w' = w := rotr_calls x 13 hx (by simp) w
theorem rot17 (x : Nat) (hx : x < 4294967296) (w : World) : Calls Tryz.prog 269 #[.int .u32 x, .int .i64 17] w fun e w' => e = .returned (.int .u32 (rotrN x 17)) ∧ w' = w := rotr_calls x 17 hx (by simp) w
theorem rot18 (x : Nat) (hx : x < 4294967296) (w : World) : Calls Tryz.prog 269 #[.int .u32 x, .int .i64 18] w fun e w' => e = .returned (.int .u32 (rotrN x 18)) ∧ w' = w := rotr_calls x 18 hx (by simp) w
theorem rot19 (x : Nat) (hx : x < 4294967296) (w : World) : Calls Tryz.prog 269 #[.int .u32 x, .int .i64 19] w fun e w' => e = .returned (.int .u32 (rotrN x 19)) ∧ w' = w := rotr_calls x 19 hx (by simp) w
theorem rot22 (x : Nat) (hx : x < 4294967296) (w : World) : Calls Tryz.prog 269 #[.int .u32 x, .int .i64 22] w fun e w' => e = .returned (.int .u32 (rotrN x 22)) ∧ w' = w := rotr_calls x 22 hx (by simp) w
theorem rot25 (x : Nat) (hx : x < 4294967296) (w : World) : Calls Tryz.prog 269 #[.int .u32 x, .int .i64 25] w fun e w' => e = .returned (.int .u32 (rotrN x 25)) ∧ w' = w := rotr_calls x 25 hx (by simp) w

theorem xorV (x y : Nat) (hx : x < 4294967296) (hy : y < 4294967296) : bits BinOp.xor IntKind.u32 (x : Int) (y : Int) = ((x ^^^ y : Nat) : Int) := u32_xor_nat x y hx hy
theorem xor3V (a b c : Nat) (ha : a < 4294967296) (hb : b < 4294967296) (hc : c < 4294967296) : bits BinOp.xor IntKind.u32 (bits BinOp.xor IntKind.u32 (a : Int) (b : Int)) (c : Int) = ((xor3 a b c : Nat) : Int) := by
  have h1 := xorV a b ha hb
  have h2 := xorV (a ^^^ b) c (xor_lt ha hb) hc
  unfold xor3
  exact (congrArg (fun z => bits BinOp.xor IntKind.u32 z (c : Int)) h1).trans h2
theorem sg0V (x : Nat) (hx : x < 4294967296) : bits BinOp.xor IntKind.u32 (bits BinOp.xor IntKind.u32 (rotrN x 7 : Nat) (rotrN x 18 : Nat)) ((x : Int) / 8) = ((sg0 x : Nat) : Int) := by
  have h1 := rotr_lt x 7 hx (by omega)
  have h2 := rotr_lt x 18 hx (by omega)
  have e : (x : Int) / 8 = ((x / 8 : Nat) : Int) := by omega
  have h3 : x / 8 < 4294967296 := by omega
  unfold sg0
  generalize rotrN x 7 = a at *
  generalize rotrN x 18 = b at *
  rw [e]
  exact xor3V a b _ h1 h2 h3
theorem sg1V (x : Nat) (hx : x < 4294967296) : bits BinOp.xor IntKind.u32 (bits BinOp.xor IntKind.u32 (rotrN x 17 : Nat) (rotrN x 19 : Nat)) ((x : Int) / 1024) = ((sg1 x : Nat) : Int) := by
  have h1 := rotr_lt x 17 hx (by omega)
  have h2 := rotr_lt x 19 hx (by omega)
  have e : (x : Int) / 1024 = ((x / 1024 : Nat) : Int) := by omega
  have h3 : x / 1024 < 4294967296 := by omega
  unfold sg1
  generalize rotrN x 17 = a at *
  generalize rotrN x 19 = b at *
  rw [e]
  exact xor3V a b _ h1 h2 h3
theorem bg0V (x : Nat) (hx : x < 4294967296) : bits BinOp.xor IntKind.u32 (bits BinOp.xor IntKind.u32 (rotrN x 2 : Nat) (rotrN x 13 : Nat)) (rotrN x 22 : Nat) = ((bg0 x : Nat) : Int) :=
  xor3V _ _ _ (rotr_lt x 2 hx (by omega)) (rotr_lt x 13 hx (by omega)) (rotr_lt x 22 hx (by omega))
theorem bg1V (x : Nat) (hx : x < 4294967296) : bits BinOp.xor IntKind.u32 (bits BinOp.xor IntKind.u32 (rotrN x 6 : Nat) (rotrN x 11 : Nat)) (rotrN x 25 : Nat) = ((bg1 x : Nat) : Int) :=
  xor3V _ _ _ (rotr_lt x 6 hx (by omega)) (rotr_lt x 11 hx (by omega)) (rotr_lt x 25 hx (by omega))
theorem not_xor (x : Nat) (hx : x < 4294967296) : 4294967295 ^^^ x = 4294967295 - x := by
  apply Nat.eq_of_testBit_eq
  intro i
  have h : Nat.testBit (4294967295 - x) i = (decide (i < 32) && !x.testBit i) := by
    have := Nat.testBit_two_pow_sub_succ (x := x) (n := 32) (by simpa using hx) i
    simpa [Nat.sub_sub, Nat.add_comm] using this
  have h1 : Nat.testBit 4294967295 i = decide (i < 32) := by
    have := Nat.testBit_two_pow_sub_one 32 i
    simpa using this
  rw [Nat.testBit_xor, h, h1]
  by_cases hi : i < 32
  · simp only [hi, decide_true, Bool.true_and]
    cases x.testBit i <;> rfl
  · have hzz : x.testBit i = false := Nat.testBit_lt_two_pow (Nat.lt_of_lt_of_le hx (by rw [show (4294967296 : Nat) = 2 ^ 32 from rfl]; exact Nat.pow_le_pow_right (by omega) (by omega)))
    simp [hi, hzz]
theorem chV (x y z : Nat) (hx : x < 4294967296) (hy : y < 4294967296) (hz : z < 4294967296) :
    bits BinOp.xor IntKind.u32 (bits BinOp.and IntKind.u32 (x : Int) (y : Int)) (bits BinOp.and IntKind.u32 (bits BinOp.xor IntKind.u32 (if IntKind.u32.signed = true then -1 else IntKind.u32.max) (x : Int)) (z : Int)) = ((chN x y z : Nat) : Int) := by
  have h1 : bits BinOp.xor IntKind.u32 (if IntKind.u32.signed = true then -1 else IntKind.u32.max) (x : Int) = ((4294967295 - x : Nat) : Int) := by
    have := u32_xor_nat 4294967295 x (by omega) hx
    rw [not_xor x hx] at this
    exact this
  rw [h1, u32_and_nat _ _ hx hy, u32_and_nat _ _ (by omega) hz, not_and x z hx hz, u32_xor_nat _ _ (and_lt hx) (xor_lt hz (and_lt hx))]
  rfl
theorem majV (x y z : Nat) (hx : x < 4294967296) (hy : y < 4294967296) (hz : z < 4294967296) :
    bits BinOp.xor IntKind.u32 (bits BinOp.xor IntKind.u32 (bits BinOp.and IntKind.u32 (x : Int) (y : Int)) (bits BinOp.and IntKind.u32 (x : Int) (z : Int))) (bits BinOp.and IntKind.u32 (y : Int) (z : Int)) = ((majN x y z : Nat) : Int) := by
  rw [u32_and_nat _ _ hx hy, u32_and_nat _ _ hx hz, u32_and_nat _ _ hy hz, u32_xor_nat _ _ (and_lt hx) (and_lt hx), u32_xor_nat _ _ (xor_lt (and_lt hx) (and_lt hx)) (and_lt hy)]
  rfl
theorem sg0_lt (x : Nat) (hx : x < 4294967296) : sg0 x < 4294967296 := by
  unfold sg0
  exact xor3_lt (rotr_lt x 7 hx (by omega)) (rotr_lt x 18 hx (by omega)) (by omega)
theorem sg1_lt (x : Nat) (hx : x < 4294967296) : sg1 x < 4294967296 := by
  unfold sg1
  exact xor3_lt (rotr_lt x 17 hx (by omega)) (rotr_lt x 19 hx (by omega)) (by omega)
theorem bg0_lt (x : Nat) (hx : x < 4294967296) : bg0 x < 4294967296 := by
  unfold bg0
  exact xor3_lt (rotr_lt x 2 hx (by omega)) (rotr_lt x 13 hx (by omega)) (rotr_lt x 22 hx (by omega))
theorem bg1_lt (x : Nat) (hx : x < 4294967296) : bg1 x < 4294967296 := by
  unfold bg1
  exact xor3_lt (rotr_lt x 6 hx (by omega)) (rotr_lt x 11 hx (by omega)) (rotr_lt x 25 hx (by omega))

/-- The words, one by one. -/
def mWx (blk m : List Nat) (t : Nat) : Nat := if t < 16 then wordN blk t else schedNext m
def mW (blk : List Nat) : Nat → List Nat
  | 0 => []
  | t + 1 => mW blk t ++ [mWx blk (mW blk t) t]
theorem mW_length (blk : List Nat) : ∀ t, (mW blk t).length = t
  | 0 => rfl
  | t + 1 => by rw [mW, List.length_append, mW_length blk t]; rfl
theorem mWx_lt (blk m : List Nat) (t : Nat) (hb : ∀ j, blk.getD j 0 < 256) : mWx blk m t < 4294967296 := by
  unfold mWx
  split
  · exact word_lt blk t hb
  · exact Nat.mod_lt _ (by decide)
theorem mW_lt (blk : List Nat) (hb : ∀ j, blk.getD j 0 < 256) : ∀ t, ∀ x ∈ mW blk t, x < 4294967296
  | 0 => by simp [mW]
  | t + 1 => by
    intro x hx
    rw [mW] at hx
    rcases List.mem_append.1 hx with h | h
    · exact mW_lt blk hb t x h
    · rw [List.mem_singleton.1 h]
      exact mWx_lt blk _ t hb
theorem mW_first (blk : List Nat) : ∀ t, t ≤ 16 → mW blk t = (List.range t).map (wordN blk)
  | 0, _ => rfl
  | t + 1, h => by
    rw [mW, mW_first blk t (by omega), List.range_succ, List.map_append]
    simp [mWx, show t < 16 by omega]
theorem sched_snoc : ∀ (n : Nat) (m : List Nat), schedN (n + 1) m = schedN n m ++ [schedNext (schedN n m)]
  | 0, m => rfl
  | n + 1, m => by
    rw [schedN, sched_snoc n, schedN]
theorem mW_sched (blk : List Nat) : ∀ n, mW blk (16 + n) = schedN n ((List.range 16).map (wordN blk))
  | 0 => mW_first blk 16 (by omega)
  | n + 1 => by
    rw [← Nat.add_assoc, mW, sched_snoc, mW_sched blk n]
    unfold mWx
    rw [if_neg (by omega)]
theorem set_next (l : List Nat) (t n x : Nat) (h : l.length = t) (ht : t < n) : (l ++ List.replicate (n - t) 0).set t x = l ++ [x] ++ List.replicate (n - (t + 1)) 0 := by
  rw [show n - t = (n - (t + 1)) + 1 by omega, List.replicate_succ, List.set_append_right _ _ (by omega), h, Nat.sub_self, List.set_cons_zero]
  simp
theorem getD_app (l r : List Nat) (j : Nat) (h : j < l.length) : (l ++ r).getD j 0 = l.getD j 0 := by
  rw [List.getD_eq_getElem?_getD, List.getD_eq_getElem?_getD, List.getElem?_append_left h]
theorem getD_lt (l : List Nat) (n : Nat) (h : ∀ x ∈ l, x < n) (hn : 0 < n) (j : Nat) : l.getD j 0 < n := by
  rw [List.getD_eq_getElem?_getD]
  rcases Nat.lt_or_ge j l.length with hj | hj
  · rw [List.getElem?_eq_getElem hj]
    exact h _ (List.getElem_mem hj)
  · rw [List.getElem?_eq_none hj]
    exact hn

/-- The memory of a step: the state, the block, the answer's place, the words. -/
structure CpIs (w wx : World) (B : Nat) (st blk ms : List Nat) : Prop where
  a : wx.heap[B]? = some (.cells (hV st) 36 (0, 0))
  b : wx.heap[B + 1]? = some (.cells (hV blk) 260 (0, 0))
  c : wx.heap[B + 2]? = some (.cells zeroHash 36 (0, 0))
  m : wx.heap[B + 3]? = some (.cells (wV ms) 288 (0, 0))
  chg : Chg [] w wx
  sz : wx.heap.size = B + 4
  B0 : w.heap.size = B
theorem CpIs.init (w : World) (st blk : List Nat) : CpIs w ((((w.alloc (.cells (hV st) 36)).alloc (.cells (hV blk) 260)).alloc (.cells zeroHash 36)).alloc (.cells zero_a64w 288)) w.heap.size st blk (List.replicate 64 0) := by
  have h0 := blk_new w (.cells (hV st) 36)
  have h1 := blk_new (w.alloc (.cells (hV st) 36)) (.cells (hV blk) 260)
  have h2 := blk_new ((w.alloc (.cells (hV st) 36)).alloc (.cells (hV blk) 260)) (.cells zeroHash 36)
  have h3 := blk_new (((w.alloc (.cells (hV st) 36)).alloc (.cells (hV blk) 260)).alloc (.cells zeroHash 36)) (.cells zero_a64w 288)
  simp only [World.size_alloc] at h0 h1 h2 h3
  exact ⟨blk_alloc (blk_alloc (blk_alloc h0 _) _) _, blk_alloc (blk_alloc h1 _) _, blk_alloc h2 _, h3, ((((Chg.refl _ _).alloc _).alloc _).alloc _).alloc _, by simp, rfl⟩
theorem CpIs.drewN {w wx : World} {B : Nat} {st blk ms : List Nat} (h : CpIs w wx B st blk ms) (n : Nat) : CpIs w (wx.drewN n) B st blk ms := ⟨h.a, h.b, h.c, h.m, h.chg.drewN n, h.sz, h.B0⟩
theorem CpIs.set {w wx : World} {B : Nat} {st blk ms : List Nat} (h : CpIs w wx B st blk ms) (t x : Nat) : CpIs w (wx.setCell ⟨B + 3, t, none⟩ (.int .u32 x)) B st blk (ms.set t x) :=
  ⟨blk_far h.a (by simp) _, blk_far h.b (by simp) _, blk_far h.c (by simp) _, by rw [← wV_set]; exact blk_set h.m _ _, h.chg.setCell (.inr (by rw [h.B0]; simp)) _, by rw [World.size_setCell]; exact h.sz, h.B0⟩
theorem CpIs.next {w wx : World} {B t : Nat} {st blk : List Nat} (h : CpIs w wx B st blk (mW blk t ++ List.replicate (64 - t) 0)) (ht : t < 64) : CpIs w (wx.setCell ⟨B + 3, t, none⟩ (.int .u32 (mWx blk (mW blk t) t))) B st blk (mW blk (t + 1) ++ List.replicate (64 - (t + 1)) 0) := by
  have := h.set t (mWx blk (mW blk t) t)
  rw [set_next _ _ _ _ (mW_length blk t) ht] at this
  exact this
theorem CpIs.word {w wx : World} {B t : Nat} {st blk : List Nat} (h : CpIs w wx B st blk (mW blk t ++ List.replicate (64 - t) 0)) (ht : t ≤ 64) {j : Nat} (hj : j < 64) : wx.cell? ⟨B + 3, j, none⟩ = some (.int .u32 ((mW blk t ++ List.replicate (64 - t) 0).getD j 0)) :=
  blk_cell h.m j (wV_at _ j (by rw [List.length_append, mW_length, List.length_replicate]; omega))
end Go.Proofs.YtpklkefnmoaaaaaGreatDoor

/- The hash: one step, the memory and the plain part of the rounds. -/
namespace Go.Proofs.YtpklkefnmoaaaaaGreatDoor
open Go.RowKit
set_option linter.unusedVariables false
set_option linter.unusedSimpArgs false

/-- The eight words behind t rounds. -/
def rT (m v : List Nat) : Nat → List Nat
  | 0 => v
  | t + 1 => roundN (rT m v t) (kTab.getD t 0) (m.getD t 0)
theorem rounds_rT (m v : List Nat) : ∀ n t, roundsN m n t (rT m v t) = rT m v (t + n)
  | 0, t => rfl
  | n + 1, t => by
    have := rounds_rT m v n (t + 1)
    rw [show t + (n + 1) = t + 1 + n from by omega, ← this]
    rfl
theorem rounds_all (m v : List Nat) : roundsN m 64 0 v = rT m v 64 := by
  have := rounds_rT m v 64 0
  rw [Nat.zero_add] at this
  exact this
theorem rT_ok (m v : List Nat) (hl : v.length = 8) (hv : ∀ x ∈ v, x < 4294967296) : ∀ t, (rT m v t).length = 8 ∧ ∀ x ∈ rT m v t, x < 4294967296
  | 0 => ⟨hl, hv⟩
  | t + 1 => by
    obtain ⟨h1, h2⟩ := rT_ok m v hl hv t
    refine ⟨rfl, ?_⟩
    have h3 := getD_lt _ _ h2 (by decide)
    intro x hx
    rw [rT] at hx
    unfold roundN at hx
    simp only [List.mem_cons, List.not_mem_nil, or_false] at hx
    rcases hx with rfl | rfl | rfl | rfl | rfl | rfl | rfl | rfl
    · exact Nat.mod_lt _ (by decide)
    · exact h3 0
    · exact h3 1
    · exact h3 2
    · exact Nat.mod_lt _ (by decide)
    · exact h3 4
    · exact h3 5
    · exact h3 6
theorem kTab_lt (t : Nat) : kTab.getD t 0 < 4294967296 := getD_lt _ _ (by decide) (by decide) t

/-- The words of a state. -/
def sW (st : List Nat) (i : Nat) : List Nat := (List.range i).map (wordN st)
theorem sW_length (st : List Nat) (i : Nat) : (sW st i).length = i := by simp [sW]
theorem sW_lt (st : List Nat) (i : Nat) (hb : ∀ j, st.getD j 0 < 256) : ∀ x ∈ sW st i, x < 4294967296 := by
  intro x hx
  unfold sW at hx
  obtain ⟨j, _, rfl⟩ := List.mem_map.1 hx
  exact word_lt st j hb
theorem sW_next (st : List Nat) (i : Nat) : sW st (i + 1) = sW st i ++ [wordN st i] := by simp [sW, List.range_succ]

structure CsIs (w wx : World) (B : Nat) (st ms ss : List Nat) : Prop where
  a : wx.heap[B]? = some (.cells (hV st) 36 (0, 0))
  c : wx.heap[B + 2]? = some (.cells zeroHash 36 (0, 0))
  m : wx.heap[B + 3]? = some (.cells (wV ms) 288 (0, 0))
  s : wx.heap[B + 4]? = some (.cells (wV ss) 291 (0, 0))
  chg : Chg [] w wx
  sz : wx.heap.size = B + 5
  B0 : w.heap.size = B
theorem CsIs.init {w wx : World} {B : Nat} {st blk ms : List Nat} (h : CpIs w wx B st blk ms) : CsIs w (wx.alloc (.cells zero_a8w 291)) B st ms (List.replicate 8 0) :=
  ⟨blk_alloc h.a _, blk_alloc h.c _, blk_alloc h.m _, by have := blk_new wx (.cells zero_a8w 291); rw [h.sz] at this; exact this, h.chg.alloc _, by rw [World.size_alloc, h.sz], h.B0⟩
theorem CsIs.next {w wx : World} {B i : Nat} {st ms : List Nat} (h : CsIs w wx B st ms (sW st i ++ List.replicate (8 - i) 0)) (hi : i < 8) : CsIs w (wx.setCell ⟨B + 4, i, none⟩ (.int .u32 (wordN st i))) B st ms (sW st (i + 1) ++ List.replicate (8 - (i + 1)) 0) := by
  have h1 := blk_set h.s i (.int .u32 (wordN st i))
  rw [wV_set, set_next _ _ _ _ (sW_length st i) hi, ← sW_next] at h1
  exact ⟨blk_far h.a (by simp) _, blk_far h.c (by simp) _, blk_far h.m (by simp) _, h1, h.chg.setCell (.inr (by rw [h.B0]; simp)) _, by rw [World.size_setCell]; exact h.sz, h.B0⟩
theorem CsIs.cell {w wx : World} {B : Nat} {st ms ss : List Nat} (h : CsIs w wx B st ms ss) (hl : ss.length = 8) {j : Nat} (hj : j < 8) : wx.cell? ⟨B + 4, j, none⟩ = some (.int .u32 (ss.getD j 0)) := blk_cell h.s j (wV_at _ j (by omega))

structure CvIs (w wx : World) (B : Nat) (ms ss vs : List Nat) : Prop where
  c : wx.heap[B + 2]? = some (.cells zeroHash 36 (0, 0))
  m : wx.heap[B + 3]? = some (.cells (wV ms) 288 (0, 0))
  s : wx.heap[B + 4]? = some (.cells (wV ss) 291 (0, 0))
  v : wx.heap[B + 5]? = some (.cells (wV vs) 291 (0, 0))
  chg : Chg [] w wx
  sz : wx.heap.size = B + 6
  B0 : w.heap.size = B
theorem CvIs.drewN {w wx : World} {B : Nat} {ms ss vs : List Nat} (h : CvIs w wx B ms ss vs) (n : Nat) : CvIs w (wx.drewN n) B ms ss vs := ⟨h.c, h.m, h.s, h.v, h.chg.drewN n, h.sz, h.B0⟩
theorem CvIs.init {w wx : World} {B : Nat} {st ms ss : List Nat} (h : CsIs w wx B st ms ss) : CvIs w (wx.alloc (.cells (wV ss) 291)) B ms ss ss :=
  ⟨blk_alloc h.c _, blk_alloc h.m _, blk_alloc h.s _, by have := blk_new wx (.cells (wV ss) 291); rw [h.sz] at this; exact this, h.chg.alloc _, by rw [World.size_alloc, h.sz], h.B0⟩
theorem CvIs.set {w wx : World} {B : Nat} {ms ss vs vs' : List Nat} (h : CvIs w wx B ms ss vs) (hl : vs.length = 8) (hl' : vs'.length = 8) : CvIs w (setRng wx (B + 5) 0 (wV vs')) B ms ss vs' := by
  have h1 := setRng_heap h.v 0 (wV vs') (by rw [wV_size, wV_size]; omega)
  have e : ((wV vs).toList.take 0 ++ (wV vs').toList ++ (wV vs).toList.drop (0 + (wV vs').size)).toArray = wV vs' := by
    apply Array.toList_inj.1
    simp [wV, hl, hl']
  rw [e] at h1
  have hc := setRng_chg wx (B + 5) 0 (wV vs')
  exact ⟨hc.at h.c (by simp), hc.at h.m (by simp), hc.at h.s (by simp), h1, h.chg.setRng (.inr (by rw [h.B0]; omega)) _ _, by rw [setRng_size]; exact h.sz, h.B0⟩
theorem CvIs.vcell {w wx : World} {B : Nat} {ms ss vs : List Nat} (h : CvIs w wx B ms ss vs) (hl : vs.length = 8) {j : Nat} (hj : j < 8) : wx.cell? ⟨B + 5, j, none⟩ = some (.int .u32 (vs.getD j 0)) := blk_cell h.v j (wV_at _ j (by omega))
theorem CvIs.mcell {w wx : World} {B : Nat} {ms ss vs : List Nat} (h : CvIs w wx B ms ss vs) (hl : ms.length = 64) {j : Nat} (hj : j < 64) : wx.cell? ⟨B + 3, j, none⟩ = some (.int .u32 (ms.getD j 0)) := blk_cell h.m j (wV_at _ j (by omega))

@[go_sem ↓] theorem hold_bd_a8w (ps : Array (Nat × Value)) : Instr.build 291 ps = bdX 291 ps := rfl
theorem bd_a8w (a b c d e f g h : Int) (w : World) : (bdX 291 #[(0, .int .u32 a), (1, .int .u32 b), (2, .int .u32 c), (3, .int .u32 d), (4, .int .u32 e), (5, .int .u32 f), (6, .int .u32 g), (7, .int .u32 h)]).run Tryz.prog w = .ok (.agg #[.int .u32 a, .int .u32 b, .int .u32 c, .int .u32 d, .int .u32 e, .int .u32 f, .int .u32 g, .int .u32 h]) w := by kernel_rfl

/-- The answer's bytes. -/
def oB (x : Nat → Nat) (i : Nat) : List Nat := (List.range i).flatMap fun j => bytesN (x j)
theorem oB_length (x : Nat → Nat) (i : Nat) : (oB x i).length = 4 * i := by
  induction i with
  | zero => rfl
  | succ i ih =>
    unfold oB at *
    rw [List.range_succ, List.flatMap_append, List.length_append, ih]
    simp [bytesN]
    omega
theorem oB_next (x : Nat → Nat) (i : Nat) : oB x (i + 1) = oB x i ++ bytesN (x i) := by simp [oB, List.range_succ]
theorem oB_lt (x : Nat → Nat) (i : Nat) : ∀ y ∈ oB x i, y < 256 := by
  intro y hy
  unfold oB at hy
  obtain ⟨j, _, h⟩ := List.mem_flatMap.1 hy
  simp only [bytesN, List.mem_cons, List.not_mem_nil, or_false] at h
  rcases h with rfl | rfl | rfl | rfl <;> exact Nat.mod_lt _ (by decide)
structure CoIs (w wx : World) (B : Nat) (ss vs os : List Nat) : Prop where
  c : wx.heap[B + 2]? = some (.cells zeroHash 36 (0, 0))
  s : wx.heap[B + 4]? = some (.cells (wV ss) 291 (0, 0))
  v : wx.heap[B + 5]? = some (.cells (wV vs) 291 (0, 0))
  o : wx.heap[B + 6]? = some (.cells (hV os) 36 (0, 0))
  chg : Chg [] w wx
  B0 : w.heap.size = B
theorem CoIs.init {w wx : World} {B : Nat} {ms ss vs : List Nat} (h : CvIs w wx B ms ss vs) : CoIs w (wx.alloc (.cells zeroHash 36)) B ss vs (List.replicate 32 0) :=
  ⟨blk_alloc h.c _, blk_alloc h.s _, blk_alloc h.v _, by have := blk_new wx (.cells zeroHash 36); rw [h.sz, zero_hV] at this; exact this, h.chg.alloc _, h.B0⟩
theorem CoIs.chg0 {w wx wy : World} {B : Nat} {ss vs os : List Nat} (h : CoIs w wx B ss vs os) (hc : Chg [] wx wy) : CoIs w wy B ss vs os :=
  ⟨hc.at h.c (by simp), hc.at h.s (by simp), hc.at h.v (by simp), hc.at h.o (by simp), h.chg.nil_trans hc, h.B0⟩
theorem CoIs.scell {w wx : World} {B : Nat} {ss vs os : List Nat} (h : CoIs w wx B ss vs os) (hl : ss.length = 8) {j : Nat} (hj : j < 8) : wx.cell? ⟨B + 4, j, none⟩ = some (.int .u32 (ss.getD j 0)) := blk_cell h.s j (wV_at _ j (by omega))
theorem CoIs.vcell {w wx : World} {B : Nat} {ss vs os : List Nat} (h : CoIs w wx B ss vs os) (hl : vs.length = 8) {j : Nat} (hj : j < 8) : wx.cell? ⟨B + 5, j, none⟩ = some (.int .u32 (vs.getD j 0)) := blk_cell h.v j (wV_at _ j (by omega))
def cpX (ts : Array TypeId) (ty : TypeId) (xs : Array Value) : Sem Value := Builtin.copy_ ts ty xs
@[go_sem ↓] theorem hold_cp (ts : Array TypeId) (ty : TypeId) (xs : Array Value) : Builtin.copy_ ts ty xs = cpX ts ty xs := rfl
/-- Four bytes copied behind those that are there. -/
theorem CoIs.copy {w wx : World} {B i g : Nat} {ss vs : List Nat} {x : Nat → Nat} (h : CoIs w wx B ss vs (oB x i ++ List.replicate (32 - 4 * i) 0)) (hi : i < 8) (hg : BigIs wx g 4 (x i) 4) (hgB : g ≠ B + 6) (ty : TypeId) :
    ∃ wy, (cpX #[37, 37] ty #[.slice (some ⟨B + 6, 4 * i, none⟩) (32 - 4 * i) (32 - 4 * i), .slice (some ⟨g, 0, none⟩) 4 4]).run Tryz.prog wx = .ok (.int .i64 4) wy ∧ CoIs w wy B ss vs (oB x (i + 1) ++ List.replicate (32 - 4 * (i + 1)) 0) := by
  obtain ⟨cs, h1, h2, h3⟩ := hg.ex
  have ecs : cs = hV (bytesN (x i)) := by
    apply Array.ext_getElem?
    intro j
    have f0 := h3 0 (by omega)
    have f1 := h3 1 (by omega)
    have f2 := h3 2 (by omega)
    have f3 := h3 3 (by omega)
    simp only [Nat.sub_zero, Nat.mul_zero, Nat.pow_zero, Nat.div_one, Nat.reduceSub, Nat.reduceMul, Nat.reducePow] at f0 f1 f2 f3
    match j with
    | 0 => exact f3
    | 1 => exact f2
    | 2 => exact f1
    | 3 => exact f0
    | j + 4 => rw [Array.getElem?_eq_none (by omega), Array.getElem?_eq_none (by rw [hV_size]; simp [bytesN])]
  subst ecs
  have hu : Tryz.prog.underlying 37 = some (.slice 5) := u_bytes
  have hsz : (Tryz.prog.info? 5).map (·.size) = some 1 := by kernel_rfl
  have hlen := oB_length x i
  have key := run_copy_row (P := Tryz.prog) wx 37 37 ty 5 (B + 6) (4 * i) (32 - 4 * i) (32 - 4 * i) ⟨g, 0, none⟩ 4 4 (hV (oB x i ++ List.replicate (32 - 4 * i) 0)) 36 (hV (bytesN (x i))).toList hu hsz h.o
    (by rw [show Nat.min 4 (32 - 4 * i) = 4 from Nat.min_eq_left (by omega)]; simp [hV, bytesN]) (fun j v hv => by
      rw [Array.getElem?_toList] at hv
      have := blk_cell h1 j hv
      by_cases h0 : j = 0
      · subst h0; simpa [Addr.add] using this
      · simpa [Addr.add, h0] using this) (by simp [hV, bytesN, hlen]; omega) (fun v hv => by simp [hV] at hv; obtain ⟨n, _, rfl⟩ := hv; rfl)
  have e : ((hV (oB x i ++ List.replicate (32 - 4 * i) 0)).toList.take (4 * i) ++ (hV (bytesN (x i))).toList ++ (hV (oB x i ++ List.replicate (32 - 4 * i) 0)).toList.drop (4 * i + (hV (bytesN (x i))).toList.length)).toArray = hV (oB x (i + 1) ++ List.replicate (32 - 4 * (i + 1)) 0) := by
    apply Array.toList_inj.1
    have hl4 : (bytesN (x i)).length = 4 := rfl
    rw [oB_next]
    generalize bytesN (x i) = r at *
    generalize oB x i = l at *
    simp only [hV, List.length_map, hl4, ← List.map_take, ← List.map_drop, ← List.map_append]
    refine congrArg (List.map _) ?_
    rw [List.take_append_of_le_length (by omega), List.take_of_length_le (by omega), List.drop_append, List.drop_eq_nil_of_le (by omega), List.drop_replicate, hlen]
    simp
    omega
  rw [e] at key
  have hr := setRow_heap wx (B + 6) _ (hV (oB x (i + 1) ++ List.replicate (32 - 4 * (i + 1)) 0)) _ _ h.o
  have hc : ∀ k, k ≠ B + 6 → (wx.setRow (B + 6) (hV (oB x (i + 1) ++ List.replicate (32 - 4 * (i + 1)) 0))).heap[k]? = wx.heap[k]? := fun k hk => setRow_other wx (B + 6) k _ hk
  refine ⟨_, key.trans (by simp [hV, bytesN, goInt]), ⟨(hc _ (by omega)).trans h.c, (hc _ (by omega)).trans h.s, (hc _ (by omega)).trans h.v, hr, h.chg.setRow (.inr (by rw [h.B0]; omega)) _, h.B0⟩⟩
end Go.Proofs.YtpklkefnmoaaaaaGreatDoor

/- Texts put into one by pack.py: RfF RfG RfD. -/
import Derived.Test.YtpklkefnmoaaaaaGreatDoorPkI
import Derived.Test.YtpklkefnmoaaaaaGreatDoorRfCp
import Derived.Test.YtpklkefnmoaaaaaGreatDoorPkF
import Derived.Test.YtpklkefnmoaaaaaGreatDoorPkD
/- The document's hash: rows of blocks; a text's blocks walked. -/
namespace Go.Proofs.YtpklkefnmoaaaaaGreatDoor
open Go.RowKit
set_option linter.unusedVariables false
set_option linter.unusedSimpArgs false

/-! Rows of blocks of 64 bytes. -/
@[go_sem ↓] theorem hold_bs_a64b (n : Nat) (ps : Array (Nat × Value)) : Instr.buildSlice 257 n ps = bsX 257 n ps := rfl
theorem u_blocks64 : Tryz.prog.underlying 257 = some (.slice 260) := by kernel_rfl
theorem i_a64b : (Tryz.prog.info? 260).map (fun i => (i.zero, i.size, i.bytes)) = some (some (.agg zero_a64b), 64, 64) := by kernel_rfl
@[go_sem] theorem bs_a64b (cs : Array Value) (hs : cs.size = 64) (w : World) : (bsX 257 1 #[(0, .agg cs)]).run Tryz.prog w = .ok (.slice (some ⟨w.heap.size, 0, none⟩) 1 1) (w.alloc (.cells cs 260)) := by
  obtain ⟨i, hi, hz, hsz, _⟩ := infoOf i_a64b
  unfold bsX Instr.buildSlice
  have h32 : zero_a64b.size = 64 := zero_a64b_size
  have hso : ∀ w, (sizeOf 260).run Tryz.prog w = .ok 64 w := by intro w; simp [sizeOf, typeInfo, hi, hsz]
  simp only [Sem.run_bind, run_underlying u_blocks64, Result.andThen_ok, hso, zv_a64b, Sem.run_ite, Nat.one_mul, Sem.run_pure]
  simp only [show ¬ (64 > 2 ^ 24) from by decide, show ¬ (64 = 0) from by decide, if_false, Result.andThen_ok, Value.cells]
  rw [fill_part _ _ 0 0 64 (.agg cs) _ rfl (by simpa [Value.cells] using hs) (by simp)]
  have e : ((((Array.range 64).map fun x => zero_a64b[x % zero_a64b.size]!).toList.take 0 ++ (Value.agg cs).cells.toList ++ ((Array.range 64).map fun x => zero_a64b[x % zero_a64b.size]!).toList.drop (0 + 64)).toArray) = cs := by
    apply Array.toList_inj.1
    simp [Value.cells]
  rw [e]
  rfl
def BlkOk (b : List Nat) : Prop := b.length = 64 ∧ ∀ x ∈ b, x < 256
def AOwn (w : World) (B : Nat) (v : Value) (bs : List (List Nat)) : Prop := w.ownsRow B 260 64 v bs.length (bs.flatMap fun b => (hV b).toList) ∧ ∀ b ∈ bs, BlkOk b
theorem AOwn.nil (w : World) (B : Nat) : AOwn w B (.slice none 0 0) [] := ⟨own_nil _ _ _ _, by simp⟩
theorem AOwn.chg {w w' : World} {B : Nat} {v : Value} {bs : List (List Nat)} {F : List Nat} (h : AOwn w B v bs) (hc : Chg F w w') (hF : ∀ k ∈ ob v, k ∉ F) : AOwn w' B v bs := ⟨own_chg h.1 hc hF, h.2⟩
theorem AOwn.push {w : World} {B : Nat} {v : Value} {l : List (List Nat)} (h : AOwn w B v l) (x : List Nat) (hx : BlkOk x) (hlen : l.length ≤ 1073741824) (hB : B ≤ w.heap.size) (ty : TypeId) :
    ∃ v' w', (Builtin.append_ #[257, 257] ty #[v, .slice (some ⟨w.heap.size, 0, none⟩) 1 1]).run Tryz.prog (w.alloc (.cells (hV x) 260)) = .ok v' w' ∧ AOwn w' B v' (l ++ [x]) ∧ Chg (ob v) w w' ∧ (∀ k ∈ ob v', k ∈ ob v ∨ w.heap.size ≤ k) := by
  obtain ⟨i, hi, hz, hsz, hby⟩ := infoOf i_a64b
  have hc : Chg [] w (w.alloc (.cells (hV x) 260)) := (Chg.refl _ _).alloc _
  have h1 := own_chg h.1 hc (by simp)
  obtain ⟨v', w', hr, h2, h3, h4⟩ := run_append_any (P := Tryz.prog) (w.alloc (.cells (hV x) 260)) B 257 ty 260 i _ 64 64 u_blocks64 hi hz hsz hby zero_a64b_size (by decide) v l.length _ h1 (some ⟨w.heap.size, 0, none⟩) 1 1 (hV x).toList
    ⟨by rw [Array.length_toList, hV_size, hx.1], fun _ => ⟨w.heap.size, 0, rfl, fun j u hu => by
      rw [Nat.zero_add]
      exact blk_cell (blk_new w _) j (by simpa using hu)⟩⟩ (fun u hu => by
        simp only [hV, List.mem_map] at hu
        obtain ⟨n, _, rfl⟩ := hu
        rfl) (by unfold maxLen; omega) (by omega) (by have := hc.size; omega)
  refine ⟨v', w', hr, ⟨?_, fun y hy => ?_⟩, hc.of_nil.trans h3 (fun k hk => .inl hk), fun k hk => ?_⟩
  · rw [List.length_append, List.flatMap_append]
    simpa using h2
  · rcases List.mem_append.1 hy with q | q
    · exact h.2 y q
    · rw [List.mem_singleton.1 q]; exact hx
  · rcases h4 k hk with q | q
    · exact .inl q
    · right; have := hc.size; omega
theorem aflat_length {bs : List (List Nat)} (h : ∀ b ∈ bs, BlkOk b) : (bs.flatMap fun b => (hV b).toList).length = bs.length * 64 := by
  induction bs with
  | nil => rfl
  | cons x hs ih =>
    rw [List.flatMap_cons, List.length_append, ih (fun y hy => h y (by simp [hy])), List.length_cons, Array.length_toList, hV_size, (h x (by simp)).1]
    omega
theorem aflat_at {bs : List (List Nat)} (h : ∀ b ∈ bs, BlkOk b) : ∀ (i : Nat) (hi : i < bs.length) (j : Nat) (hj : j < 64), (bs.flatMap fun b => (hV b).toList)[i * 64 + j]? = (hV bs[i])[j]? := by
  induction bs with
  | nil => intro i hi; simp at hi
  | cons x hs ih =>
    intro i hi j hj
    have hx : (hV x).toList.length = 64 := by rw [Array.length_toList, hV_size]; exact (h x (by simp)).1
    rw [List.flatMap_cons]
    cases i with
    | zero =>
      rw [List.getElem?_append_left (by omega)]
      simp
    | succ i =>
      rw [List.getElem?_append_right (by omega), hx, show (i + 1) * 64 + j - 64 = i * 64 + j from by omega, ih (fun y hy => h y (by simp [hy])) i (by simpa using hi) j hj]
      simp
/-- Blocks to be read. -/
def AsIs (w : World) (v : Value) (bs : List (List Nat)) : Prop := (∀ b ∈ bs, BlkOk b) ∧ ∃ a cap, v = .slice a bs.length cap ∧ (bs = [] ∨ ∃ b o, a = some ⟨b, o, none⟩ ∧ b < w.heap.size ∧ ∀ i (hi : i < bs.length), rng? w b (o + i * 64) 64 = some (hV bs[i]))
theorem AOwn.as {w : World} {B : Nat} {v : Value} {bs : List (List Nat)} (h : AOwn w B v bs) : AsIs w v bs := by
  refine ⟨h.2, ?_⟩
  rcases h.1.2 with ⟨rfl, h0⟩ | ⟨g, cap, cur, rfl, hb, hh, hnc, hm, hcs, ht⟩
  · have : bs = [] := List.eq_nil_of_length_eq_zero h0
    subst this
    exact ⟨none, 0, rfl, .inl rfl⟩
  · refine ⟨_, cap, rfl, .inr ⟨g, 0, rfl, blk_lt hh, fun i hi => ?_⟩⟩
    have hx : (hV bs[i]).size = 64 := by rw [hV_size]; exact (h.2 bs[i] (List.getElem_mem hi)).1
    refine rng?_mk hx fun j hj => ?_
    rw [hx] at hj
    refine blk_cell hh (0 + i * 64 + j) ?_
    have e := aflat_at h.2 i hi j hj
    rw [← ht, List.getElem?_take] at e
    split at e
    · rw [Nat.zero_add, ← Array.getElem?_toList, e, Array.getElem?_eq_getElem]
    · rw [Array.getElem?_eq_getElem (by rw [hx]; exact hj)] at e
      cases e
end Go.Proofs.YtpklkefnmoaaaaaGreatDoor

/- The document's hash: a text's blocks walked. -/
namespace Go.Proofs.YtpklkefnmoaaaaaGreatDoor
open Go.RowKit
set_option linter.unusedVariables false
set_option linter.unusedSimpArgs false

theorem BOwn.emptyR (w : World) (B : Nat) (hB : B ≤ w.heap.size) : BOwn (w.alloc (.cells #[] 5)) B (.slice (some ⟨w.heap.size, 0, none⟩) 0 0) [] :=
  own_new w B 5 1 0 #[] hB rfl (by decide)
theorem BOwn.chg {w w' : World} {B : Nat} {v : Value} {l : List Nat} {F : List Nat} (h : BOwn w B v l) (hc : Chg F w w') (hF : ∀ k ∈ ob v, k ∉ F) : BOwn w' B v l := own_chg h hc hF
/-- One byte put behind. -/
theorem BOwn.push {w : World} {B : Nat} {v : Value} {l : List Nat} (h : BOwn w B v l) (x : Nat) (hx : x < 256) (hlen : l.length ≤ 1099511627000) (hB : B ≤ w.heap.size) :
    ∃ v' w', (Builtin.append_ #[37, 37] 37 #[v, .slice (some ⟨w.heap.size, 0, none⟩) 1 1]).run Tryz.prog (w.alloc (.cells #[.int .u8 x] 5)) = .ok v' w' ∧ BOwn w' B v' (l ++ [x]) ∧ Chg (ob v) w w' := by
  have hc : Chg [] w (w.alloc (.cells #[.int .u8 x] 5)) := (Chg.refl _ _).alloc _
  obtain ⟨v', w', hr, h2, h3, h4⟩ := BsIs.append (h.chg hc (by simp)) (one_bs (blk_new w (.cells #[.int .u8 (x : Int)] 5)) hx) (by simp; omega) (by have := hc.size; omega) 37
  exact ⟨v', w', hr, h2, hc.of_nil.trans h3 (fun k hk => .inl hk)⟩
theorem box_bsG {w : World} {B n : Nat} {l : List Nat} {t : TypeId} (h : w.heap[B]? = some (.cells (hV l) t (0, 0))) (hl : l.length = n) (hn : n ≤ maxLen) (hb : ∀ x ∈ l, x < 256) : BsIs w (.slice (some ⟨B, 0, none⟩) n n) l := by
  subst hl
  refine ⟨hb, _, l.length, rfl, Nat.le_refl _, hn, .inr ⟨B, 0, rfl, blk_lt h, fun i hi => ?_⟩⟩
  rw [Nat.zero_add, blk_cell h i (hV_at l i hi)]
  simp [List.getD, hi]
def BlocksP (w : World) (l : List Nat) (e : Ending) (w' : World) : Prop := ∃ v, e = .returned v ∧ AOwn w' w.heap.size v (blocksN (padded l) ((padded l).length / 64)) ∧ Chg [] w w'
/-- The tail's eight bytes, written from behind. -/
def in8 (x c : Nat) : List Nat := List.replicate c 0 ++ (bigN x 8).drop c
theorem in8_length (x c : Nat) (hc : c ≤ 8) : (in8 x c).length = 8 := by simp [in8, bigN_length]; omega
theorem in8_step (x k : Nat) (hk : k < 8) : (in8 x (k + 1)).set k (x / 256 ^ (7 - k) % 256) = in8 x k := by
  have hb : (bigN x 8).drop k = (x / 256 ^ (7 - k) % 256) :: (bigN x 8).drop (k + 1) := by
    rw [List.drop_eq_getElem_cons (by rw [bigN_length]; exact hk)]
    congr 1
    simp only [bigN, List.getElem_map, List.getElem_range]
    rw [show 8 - 1 - k = 7 - k from by omega, show (256 : Nat) = 2 ^ 8 from rfl, ← Nat.pow_mul]
  unfold in8
  rw [hb, List.replicate_succ', List.append_assoc, List.set_append_right _ _ (by simp), List.length_replicate, Nat.sub_self]
  simp
theorem in8_end (x : Nat) : in8 x 0 = bigN x 8 := by simp [in8]
set_option maxRecDepth 100000 in
set_option maxHeartbeats 8000000 in
theorem r2blocks_calls (w : World) (v : Value) (l : List Nat) (hv : BsIs w v l) (hl : l.length ≤ 1000000000) : Calls Tryz.prog 234 #[v] w (BlocksP w l) := by
  obtain ⟨w0, rfl⟩ : ∃ w0 : World, w0 = w := ⟨_, rfl⟩
  have hlt := hv.1
  obtain ⟨va, vcap, rfl⟩ : ∃ a cap, v = .slice a l.length cap := by obtain ⟨_, a, cap, h, _⟩ := hv; exact ⟨a, cap, h⟩
  have ce : Chg [] w0 (w0.alloc (.cells #[] 5)) := (Chg.refl _ _).alloc _
  obtain ⟨v1, w1, hr1, h1, c1, b1⟩ := BsIs.append (BOwn.emptyR w0 w0.heap.size (Nat.le_refl _)) (hv.chg0 ce) (by simp; omega) (by simp) 37
  rw [List.nil_append] at h1
  have k1 : Chg [] w0 w1 := ce.trans c1 (fun k hk => .inr (by rw [ob_some] at hk; simp at hk; omega))
  obtain ⟨v2, w2, hr2, h2, c2⟩ := h1.push 128 (by omega) (by omega) k1.size
  have ol1 := own_lt h1
  have k2 : Chg [] w0 w2 := k1.trans c2 (fun k hk => .inr (ol1 k hk).1)
  have hr2' : (Builtin.append_ #[37, 37] 37 #[v1, .slice (some ⟨w1.heap.size, 0, none⟩) 1 1]).run Tryz.prog (w1.alloc (.cells #[.int .u8 128] 5)) = .ok v2 w2 := hr2
  have h2' : BOwn w2 w0.heap.size v2 (l ++ 128 :: List.replicate 0 0) := h2
  clear h1 c1 b1 k1 c2 ol1 hr2 h2 ce hv
  go_enter Tryz.func234, Tryz.ntmps234
  go_wp2_with (first
    | (at_builtin; refine Lib.wpList_append_run _ rfl _ _ _ _ rfl _ _ rfl rfl _ _ hr1 ?_)
    | (at_builtin; refine Lib.wpList_append_run _ rfl _ _ _ _ rfl _ _ rfl rfl _ _ hr2' ?_))
  clear hr1 hr2'
  go_loopg [3] (padN l.length) (fun g vv wx => ∃ k : Nat, k ≤ padN l.length ∧ g = padN l.length - k ∧ BOwn wx w0.heap.size vv (l ++ 128 :: List.replicate k 0) ∧ Chg [] w0 wx)
  case atStart => exact ⟨0, by omega, by omega, h2', k2⟩
  case round =>
    clear h2' k2
    obtain ⟨k, hk, hg, hO, hC⟩ := hrel
    have hpd : padN l.length = (119 - l.length % 64) % 64 := rfl
    have hll : (l ++ 128 :: List.replicate k 0).length = l.length + 1 + k := by simp; omega
    obtain ⟨ba, bcap, hbe⟩ : ∃ a cap, _ = Value.slice a (l ++ 128 :: List.replicate k 0).length cap := by
      have := hO.bs (by
        intro x hx
        simp only [List.mem_append, List.mem_cons] at hx
        rcases hx with h | rfl | h
        · exact hlt x h
        · decide
        · rw [List.eq_of_mem_replicate h]; decide)
      obtain ⟨_, a, cap, h, _⟩ := this
      exact ⟨a, cap, h⟩
    subst hbe
    have hO2 := hO
    rw [hll] at hO ⊢
    have hol := own_lt hO2
    have hbnd : l.length + 1 + k ≤ 1000000100 := by omega
    by_cases hlt2 : k < padN l.length
    · have hlt' := hlt2
      obtain ⟨v3, w3, hr3, h3, c3⟩ := hO2.push 0 (by omega) (by omega) hC.size
      have hsn : (l ++ 128 :: List.replicate k 0) ++ [0] = l ++ 128 :: List.replicate (k + 1) 0 := by rw [List.append_assoc, List.cons_append, ← List.replicate_succ']
      rw [hsn] at h3
      rw [hll] at hr3
      have hr3' : (Builtin.append_ #[37, 37] 37 #[.slice ba (l.length + 1 + k) bcap, .slice (some ⟨wr.heap.size, 0, none⟩) 1 1]).run Tryz.prog (wr.alloc (.cells #[.int .u8 0] 5)) = .ok v3 w3 := hr3
      have k3 : Chg [] w0 w3 := hC.trans c3 (fun j hj => .inr (hol j hj).1)
      have ht : (((l.length + 1 + k : Nat) : Int) % 64 != 56) = true := by rw [bne_iff_ne]; omega
      have HO3 := Lib.hid h3
      have HG := Lib.hid hg
      clear hr3 h3 c3 hO hO2 hol hg hsn hll hpd hlt
      generalize l.length + 1 + k = L at *
      go_wp2_with (at_builtin; refine Lib.wpList_append_run _ rfl _ _ _ _ rfl _ _ rfl rfl _ _ hr3' ?_)
      go_roundg (padN l.length - (k + 1))
      case measure => rw [HG.out]; omega
      case rel => exact ⟨k + 1, by omega, rfl, HO3.out, k3⟩
    · obtain rfl : k = padN l.length := by omega
      have ht : (((l.length + 1 + padN l.length : Nat) : Int) % 64 != 56) = false := by rw [bne_eq_false_iff_eq]; omega
      obtain ⟨wo, rfl⟩ : ∃ wo : World, wo = wr := ⟨_, rfl⟩
      have hpl := padded_length l
      have hp64 := padded_64 l
      have hplt := padded_lt l hlt
      have h8 : IntKind.u64.wrap (8 * (l.length : Int)) = ((8 * l.length : Nat) : Int) := by rw [IntKind.wrap_u64]; omega
      have HO := Lib.hid hO2
      have HOL := Lib.hid hol
      have HLL := Lib.hid hll
      clear hg hO hO2 hol hll hpd
      generalize l.length + 1 + padN l.length = L at *
      go_wp2
      have hin : in8 (8 * l.length) 8 = List.replicate 8 0 := by unfold in8; rw [List.drop_of_length_le (by rw [bigN_length]; omega), List.append_nil]
      have hbx : (wo.alloc (.cells #[.int .u8 0, .int .u8 0, .int .u8 0, .int .u8 0, .int .u8 0, .int .u8 0, .int .u8 0, .int .u8 0] 287)).heap[wo.heap.size]? = some (.cells (hV (in8 (8 * l.length) 8)) 287 (0, 0)) := by rw [hin]; exact blk_new wo _
      have hx0 : Value.int .u64 (8 * (l.length : Int)) = .int .u64 ((8 * l.length / 256 ^ (8 - 8) : Nat) : Int) := by simp
      rw [hx0]
      clear hin hx0 h8
      have hxb : 8 * l.length ≤ 8000000000 := by omega
      obtain ⟨x8, hx8e⟩ : ∃ x8, x8 = 8 * l.length := ⟨_, rfl⟩
      rw [← hx8e] at hbx hxb ⊢
      have HX8 := Lib.hid hx8e
      clear hx8e
      go_loopg [4, 6] 8 (fun g xx jj wx => ∃ c : Nat, c ≤ 8 ∧ g = c ∧ jj = .int .i64 ((c : Int) - 1) ∧ xx = .int .u64 (x8 / 256 ^ (8 - c) : Nat) ∧ wx.heap[wo.heap.size]? = some (.cells (hV (in8 x8 c)) 287 (0, 0)) ∧ Chg [] wo wx)
      case atStart => exact ⟨8, by omega, rfl, rfl, rfl, hbx, (Chg.refl _ _).alloc _⟩
      case round =>
        clear hbx
        obtain ⟨c, hc, hg, rfl, rfl, hbx, hCx⟩ := hrel
        cases c with
        | succ k =>
          have hk8 : k < 8 := hc
          have hst := in8_step x8 k hk8
          have hil := in8_length x8 (k + 1) (by omega)
          rw [show (((k + 1 : Nat) : Int) - 1) = (k : Int) from by omega, show 8 - (k + 1) = 7 - k from by omega]
          have hdv : x8 / 256 ^ (8 - k) = x8 / 256 ^ (7 - k) / 256 := by rw [Nat.div_div_eq_div_mul, ← Nat.pow_succ, show (7 - k).succ = 8 - k from by omega]
          have hxl : x8 / 256 ^ (7 - k) ≤ x8 := Nat.div_le_self _ _
          have hcell := blk_cell hbx k (hV_at (in8 x8 (k + 1)) k (by omega))
          have hfr := blk_frozen hbx k
          have hnb := blk_set hbx k (.int .u8 (x8 / 256 ^ (7 - k) % 256 : Nat))
          rw [hV_set, hst] at hnb
          have hcx := hCx.setCell (p := ⟨wo.heap.size, k, none⟩) (.inr (Nat.le_refl _)) (.int .u8 (x8 / 256 ^ (7 - k) % 256 : Nat))
          have hbl := blk_lt hbx
          have hx8 : x8 ≤ 8000000000 := hxb
          generalize x8 / 256 ^ (7 - k) = x' at *
          have hm : ((x' : Int)) % 256 = ((x' % 256 : Nat) : Int) := by omega
          have hmb : x' % 256 < 256 := Nat.mod_lt _ (by decide)
          generalize x' % 256 = bb at *
          have q0 : (0 : Int) ≤ (k : Int) := by omega
          have q1 : (k : Int) < 8 := by omega
          have HNB := Lib.hid hnb
          have HCX := Lib.hid hcx
          have HDV := Lib.hid hdv
          have HG := Lib.hid hg
          clear hst hil hnb hcx hdv hbx hCx hg
          go_wp2
          go_roundg k
          case measure => rw [HG.out]; omega
          case rel => exact ⟨k, by omega, rfl, by go_num, by rw [HDV.out]; go_num, HNB.out, HCX.out⟩
        | zero =>
          rw [in8_end] at hbx
          clear hg
          obtain ⟨wp, rfl⟩ : ∃ wp : World, wp = wr := ⟨_, rfl⟩
          have hbs : BsIs wp (.slice (some ⟨wo.heap.size, 0, none⟩) 8 8) (bigN x8 8) := box_bsG hbx (bigN_length _ _) (by decide) (bigN_lt _ _)
          have hOp := HO.out.chg hCx (by simp)
          obtain ⟨v5, w5, hr5, h5, c5, b5⟩ := BsIs.append hOp hbs (by rw [bigN_length, HLL.out]; omega) (by have := hC.size; have := hCx.size; omega) 37
          rw [HLL.out] at hr5
          have hP : (l ++ 128 :: List.replicate (padN l.length) 0) ++ bigN x8 8 = padded l := by rw [HX8.out]; unfold padded tailN; simp
          rw [hP] at h5
          have k5 : Chg [] w0 w5 := (hC.nil_trans hCx).trans c5 (fun j hj => .inr (HOL.out j hj).1)
          have hPb := h5.bs hplt
          obtain ⟨_, pa, pcap, hpe, _, _, hpr⟩ := hPb
          subst hpe
          have hPl : (padded l).length = 64 * ((padded l).length / 64) := by omega
          have hok := blocksN_ok (padded l) ((padded l).length / 64) (by omega) hplt
          have hPb : (padded l).length ≤ 2000000000 := by rw [hpl]; unfold padN; omega
          have hblk : ∀ i, i < (padded l).length / 64 → BlkOk (((padded l).drop (64 * i)).take 64) := fun i hi => hok _ (List.mem_map.2 ⟨i, List.mem_range.2 hi, rfl⟩)
          have HBK := Lib.hid hblk
          have HPL := Lib.hid hPl
          have hlp : ∀ x ∈ padded l, x < 256 := hplt
          clear hbs hOp h5 c5 b5 hP hok hpl hp64 HO HOL HLL HX8 hbx hCx hC hblk hPl hplt hlt
          have hfin : ∀ v W, AOwn W w0.heap.size v (blocksN (padded l) ((padded l).length / 64)) → Chg [] w0 W → BlocksP w0 l (.returned v) W := fun v W h1 h2 => ⟨v, rfl, h1, h2⟩
          have HFI := Lib.hid hfin
          clear hfin
          generalize padded l = P at *
          generalize P.length / 64 = m at *
          go_wp2_with (at_builtin; refine Lib.wpList_append_run _ rfl _ _ _ _ rfl _ _ rfl rfl _ _ hr5 ?_)
          clear hr5
          go_loopg [7, 8] m (fun g vv ii wx => ∃ i : Nat, i ≤ m ∧ g = m - i ∧ ii = .int .i64 (64 * i : Nat) ∧ AOwn wx w5.heap.size vv (blocksN P i) ∧ Chg [] w5 wx)
          case atStart => exact ⟨0, by omega, by omega, rfl, AOwn.nil _ _, Chg.refl _ _⟩
          case round =>
            obtain ⟨i, hi, hg, rfl, hA, hCa⟩ := hrel
            by_cases hlt : i < m
            · have hlt' := hlt
              rcases hpr with hpr | ⟨pb, po, rfl, hpb, hpr⟩
              · subst hpr; have := HPL.out; simp at this; omega
              have hbk := HBK.out i hlt'
              have hcl := blocksN_snoc P i
              have hPL := HPL.out
              have hin : 64 * i + 64 ≤ P.length := by omega
              have ht : decide (64 * i < P.length) = true := decide_eq_true (by omega)
              have hpc : ∀ (j : Nat) (hj : j < 64), w5.cell? ⟨pb, po + (64 * i + j), none⟩ = some (.int .u8 (((P.drop (64 * i)).take 64).getD j 0 : Nat)) := fun j hj => by
                rw [hpr (64 * i + j) (by omega)]
                simp [List.getD, List.getElem?_take, List.getElem?_drop, hj, show 64 * i + j < P.length by omega]
              have hpush := fun (W : World) (hW : Chg [] wr W) => (hA.chg hW (by simp)).push ((P.drop (64 * i)).take 64) hbk (by rw [blocksN_length]; omega) (by have := hCa.size; have := hW.size; omega) 257
              rw [← hcl] at hpush
              have hol := own_lt hA.1
              have HG := Lib.hid hg
              have HPC := Lib.hid hpc
              have HPU := Lib.hid hpush
              have HOL := Lib.hid hol
              have hbx0 : (wr.alloc (.cells zero_a64b 260)).heap[wr.heap.size]? = some (.cells (hV (((P.drop (64 * i)).take 64).take 0 ++ List.replicate (64 - 0) 0)) 260 (0, 0)) := blk_new wr _
              obtain ⟨hck, hcb⟩ := hbk
              clear hg hpc hpush hol hA hcl hpr hPL
              generalize (P.drop (64 * i)).take 64 = ck at *
              have hI : 64 * i ≤ 2000000000 := by omega
              generalize hIe : 64 * i = I at *
              have HI : Shut (64 * i = I) := ⟨hIe⟩
              clear hIe
              obtain ⟨wq, rfl⟩ : ∃ wq : World, wq = wr := ⟨_, rfl⟩
              go_wp2
              go_loopg [10] 64 (fun g jj wx => ∃ j : Nat, j ≤ 64 ∧ g = 64 - j ∧ jj = .int .i64 j ∧ wx.heap[wq.heap.size]? = some (.cells (hV (ck.take j ++ List.replicate (64 - j) 0)) 260 (0, 0)) ∧ Chg [] wq wx)
              case atStart => exact ⟨0, by omega, by omega, rfl, hbx0, (Chg.refl _ _).alloc _⟩
              case round =>
                clear hbx0
                obtain ⟨j, hj, hgj, rfl, hbx, hCq⟩ := hrel
                have htl : (ck.take j).length = j := by rw [List.length_take]; omega
                by_cases hjl : j < 64
                · have hjl' := hjl
                  have hpcj := ((hCa.nil_trans hCq).cell (p := ⟨pb, po + (I + j), none⟩) hpb (by simp)).trans (HPC.out j hjl')
                  have hpbl := World.block_lt_of_cell? _ _ hpcj
                  have hset := set_next (ck.take j) j 64 (ck.getD j 0) htl hjl'
                  have htk : ck.take j ++ [ck.getD j 0] = ck.take (j + 1) := by rw [List.take_succ_eq_append_getElem (by omega)]; simp [List.getD, show j < ck.length by omega]
                  rw [htk] at hset
                  have hcell := blk_cell hbx j (hV_at (ck.take j ++ List.replicate (64 - j) 0) j (by rw [List.length_append, htl, List.length_replicate]; omega))
                  have hfr := blk_frozen hbx j
                  have hnb := blk_set hbx j (.int .u8 (ck.getD j 0 : Nat))
                  rw [hV_set, hset] at hnb
                  have hcx := hCq.setCell (p := ⟨wq.heap.size, j, none⟩) (.inr (Nat.le_refl _)) (.int .u8 (ck.getD j 0 : Nat))
                  have hbl := blk_lt hbx
                  have q0 : (0 : Int) ≤ (j : Int) := by omega
                  have q1 : (j : Int) < 64 := by omega
                  have q2 : (0 : Int) ≤ (I : Int) + (j : Int) := by omega
                  have q3 : (I : Int) + (j : Int) < (P.length : Int) := by omega
                  have q4 : ((I : Int) + (j : Int)).toNat = I + j := by omega
                  have HNB := Lib.hid hnb
                  have HCX := Lib.hid hcx
                  have HGJ := Lib.hid hgj
                  clear hset htk hnb hcx hbx hCq hgj htl
                  generalize ck.getD j 0 = bb at *
                  go_wp2
                  go_roundg (64 - (j + 1))
                  case measure => rw [HGJ.out]; omega
                  case rel => exact ⟨j + 1, by omega, rfl, by go_num, HNB.out, HCX.out⟩
                · obtain rfl : j = 64 := by omega
                  rw [List.take_of_length_le (by omega), Nat.sub_self, List.replicate_zero, List.append_nil] at hbx
                  have hs64 : (hV ck).size = 64 := by rw [hV_size]; exact hck
                  have hrx : rng? wr wq.heap.size 0 64 = some (hV ck) := rng?_row hbx hs64
                  have hbl := blk_lt hbx
                  obtain ⟨v7, w7, hr7, h7, c7, b7⟩ := HPU.out wr hCq
                  have k7 : Chg [] w5 w7 := (hCa.nil_trans hCq).trans c7 (fun j hj => .inr (HOL.out j hj).1)
                  have H7 := Lib.hid h7
                  have ho64 : one1 (hV ck) = true := hV_one _
                  clear hgj hbx hCq h7 c7 b7 htl
                  generalize hV ck = cks at *
                  go_wp2_with (at_builtin; refine Lib.wpList_append_run _ rfl _ _ _ _ rfl _ _ rfl rfl _ _ hr7 ?_)
                  go_roundg (m - (i + 1))
                  case measure => rw [HG.out]; omega
                  case rel => exact ⟨i + 1, by omega, rfl, by have := HI.out; go_num, H7.out, k7⟩
            · obtain rfl : i = m := by omega
              have hPL := HPL.out
              have ht : decide (64 * i < P.length) = false := decide_eq_false (by omega)
              clear hg hpr
              go_wp2
              go_ret
              exact HFI.out _ _ ⟨own_mono hA.1 k5.size, hA.2⟩ (k5.nil_trans hCa)
end Go.Proofs.YtpklkefnmoaaaaaGreatDoor

/- The document's hash: the table, one step. -/
namespace Go.Proofs.YtpklkefnmoaaaaaGreatDoor
open Go.RowKit
set_option linter.unusedVariables false
set_option linter.unusedSimpArgs false

def tabC : Array Value := (kTab.map fun (n : Nat) => Value.int .u64 (n : Int)).toArray
theorem hold_tab (ps : Array (Nat × Value)) : Instr.buildSlice 44 64 ps = bsX 44 64 ps := rfl
theorem bs_tab (w : World) : (bsX 44 64 #[(0, .int .u64 1116352408), (1, .int .u64 1899447441), (2, .int .u64 3049323471), (3, .int .u64 3921009573), (4, .int .u64 961987163), (5, .int .u64 1508970993), (6, .int .u64 2453635748), (7, .int .u64 2870763221), (8, .int .u64 3624381080), (9, .int .u64 310598401), (10, .int .u64 607225278), (11, .int .u64 1426881987), (12, .int .u64 1925078388), (13, .int .u64 2162078206), (14, .int .u64 2614888103), (15, .int .u64 3248222580), (16, .int .u64 3835390401), (17, .int .u64 4022224774), (18, .int .u64 264347078), (19, .int .u64 604807628), (20, .int .u64 770255983), (21, .int .u64 1249150122), (22, .int .u64 1555081692), (23, .int .u64 1996064986), (24, .int .u64 2554220882), (25, .int .u64 2821834349), (26, .int .u64 2952996808), (27, .int .u64 3210313671), (28, .int .u64 3336571891), (29, .int .u64 3584528711), (30, .int .u64 113926993), (31, .int .u64 338241895), (32, .int .u64 666307205), (33, .int .u64 773529912), (34, .int .u64 1294757372), (35, .int .u64 1396182291), (36, .int .u64 1695183700), (37, .int .u64 1986661051), (38, .int .u64 2177026350), (39, .int .u64 2456956037), (40, .int .u64 2730485921), (41, .int .u64 2820302411), (42, .int .u64 3259730800), (43, .int .u64 3345764771), (44, .int .u64 3516065817), (45, .int .u64 3600352804), (46, .int .u64 4094571909), (47, .int .u64 275423344), (48, .int .u64 430227734), (49, .int .u64 506948616), (50, .int .u64 659060556), (51, .int .u64 883997877), (52, .int .u64 958139571), (53, .int .u64 1322822218), (54, .int .u64 1537002063), (55, .int .u64 1747873779), (56, .int .u64 1955562222), (57, .int .u64 2024104815), (58, .int .u64 2227730452), (59, .int .u64 2361852424), (60, .int .u64 2428436474), (61, .int .u64 2756734187), (62, .int .u64 3204031479), (63, .int .u64 3329325298)]).run Tryz.prog w = .ok (.slice (some ⟨w.heap.size, 0, none⟩) 64 64) (w.alloc (.cells tabC 38)) := by kernel_rfl
section
attribute [local go_sem ↓] hold_tab
attribute [local go_sem] bs_tab
set_option maxRecDepth 100000 in
theorem r2table_calls (w : World) : Calls Tryz.prog 289 #[] w fun e w' => e = .returned (.slice (some ⟨w.heap.size, 0, none⟩) 64 64) ∧ w' = w.alloc (.cells tabC 38) := by
  go_enter Tryz.func289, Tryz.ntmps289
  go_wp2
  go_ret
  exact ⟨rfl, rfl⟩
end
/-- A list of numbers to be read. -/
def UsIs (w : World) (v : Value) (l : List Nat) : Prop := ∃ b o cap, v = .slice (some ⟨b, o, none⟩) l.length cap ∧ b < w.heap.size ∧ ∀ i, i < l.length → w.cell? ⟨b, o + i, none⟩ = some (.int .u64 (l.getD i 0 : Nat))
theorem UsIs.chg0 {w w' : World} {v : Value} {l : List Nat} (h : UsIs w v l) (hc : Chg [] w w') : UsIs w' v l := by
  obtain ⟨b, o, cap, hv, hb, hr⟩ := h
  exact ⟨b, o, cap, hv, by have := hc.size; omega, fun i hi => (hc.cell (p := ⟨b, o + i, none⟩) hb (by simp)).trans (hr i hi)⟩
theorem UOwn.us {w : World} {B : Nat} {v : Value} {l : List Nat} (h : UOwn w B v l) (h0 : l ≠ []) : UsIs w v l := by
  obtain ⟨a, cap, rfl, hc⟩ := h.cells
  rcases hc with rfl | ⟨b, o, rfl, hb, hr⟩
  · exact absurd rfl h0
  · refine ⟨b, o, cap, rfl, hb, fun i hi => ?_⟩
    rw [hr i hi]
    simp [List.getD, hi]
theorem tab_us (w : World) : UsIs (w.alloc (.cells tabC 38)) (.slice (some ⟨w.heap.size, 0, none⟩) 64 64) kTab := by
  refine ⟨w.heap.size, 0, 64, rfl, by simp, fun i hi => ?_⟩
  rw [Nat.zero_add]
  refine blk_cell (blk_new w _) i ?_
  unfold tabC
  rw [← Array.getElem?_toList]
  have hi' : i < kTab.length := hi
  simp [List.getD, hi']
end Go.Proofs.YtpklkefnmoaaaaaGreatDoor

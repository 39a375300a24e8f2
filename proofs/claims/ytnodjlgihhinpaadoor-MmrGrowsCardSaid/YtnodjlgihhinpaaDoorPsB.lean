/- Places: Place, Peaks walked. -/
import Derived.Test.YtnodjlgihhinpaaDoorPsA
import Derived.Test.YtnodjlgihhinpaaDoorOwn
import Derived.BigQuiet
import Derived.Deep.LoopGhost
namespace Go.Proofs.YtnodjlgihhinpaaDoor
open Go.RowKit
set_option linter.unusedVariables false
set_option linter.unusedSimpArgs false

theorem wrap_shl (a h : Nat) (hb : a * 2 ^ h < 18446744073709551616) : IntKind.u64.wrap ((a : Int) * 2 ^ h) = ((a * 2 ^ h : Nat) : Int) := by
  rw [IntKind.wrap_u64, ← pow_i]
  have : (a : Int) * (2 ^ h : Nat) = ((a * 2 ^ h : Nat) : Int) := by simp
  rw [this]
  omega
def PlaceP (w : World) (p : Nat) (e : Ending) (w' : World) : Prop := e = .returned (.tuple #[.int .u64 p, .bool true]) ∧ Chg [] w w'
set_option maxRecDepth 100000 in
theorem place_calls (h k : Nat) (hh : h ≤ 62) (hk : (k + 1) * 2 ^ h ≤ 4611686018427387904) (w : World) : Calls Tryd.prog 87 #[.agg #[.int .u8 h, .int .u64 k]] w (PlaceP w (nodesN ((k + 1) * 2 ^ h - 1) + h)) := by
  have hp := Nat.two_pow_pos h
  have hk1 : 0 < (k + 1) * 2 ^ h := Nat.mul_pos (by omega) hp
  have hpe : 2 ^ 62 = 2 ^ (62 - h) * 2 ^ h := by rw [← Nat.pow_add]; congr 1; omega
  have hkk : k + 1 ≤ 2 ^ (62 - h) := by
    apply Nat.le_of_mul_le_mul_right _ hp
    rw [← hpe]
    exact hk
  have hdiv : (4611686018427387904 : Int) / 2 ^ h = ((2 ^ (62 - h) : Nat) : Int) := by
    rw [show (4611686018427387904 : Int) = ((2 ^ 62 : Nat) : Int) from rfl, ← pow_i, hpe]
    exact_mod_cast Nat.mul_div_cancel _ hp
  have hkl : k < 4611686018427387904 := by
    have := Nat.le_mul_of_pos_right (k + 1) hp
    omega
  have hsh := wrap_shl (k + 1) h (by omega)
  have hno := fun w => nodes_calls ((k + 1) * 2 ^ h - 1) (by omega) w
  have hnl := nodes_le ((k + 1) * 2 ^ h - 1)
  rw [show (((k + 1) * 2 ^ h - 1 : Nat) : Int) = (((k + 1) * 2 ^ h : Nat) : Int) - 1 from by omega] at hno
  rw [show ((k + 1 : Nat) : Int) = (k : Int) + 1 from by omega] at hsh
  generalize (k + 1) * 2 ^ h = m at *
  generalize 2 ^ (62 - h) = q at *
  generalize nodesN (m - 1) = nn at *
  clear hpe hp
  go_enter Tryd.func87, Tryd.ntmps87
  have HNL := hnl
  go_upto_region 3 with (fail)
  have q1 : IntKind.u64.wrap ((k : Int) + 1) = (k : Int) + 1 := by rw [IntKind.wrap_u64]; omega
  have q2 : IntKind.u64.wrap ((m : Int) - 1) = (m : Int) - 1 := by rw [IntKind.wrap_u64]; omega
  have q3 : IntKind.u64.wrap ((nn : Int) + h) = (nn : Int) + h := by rw [IntKind.wrap_u64]; omega
  have q4 : IntKind.u64.wrap (h : Int) = (h : Int) := by rw [IntKind.wrap_u64]; omega
  have hc : Chg [] w (w.alloc (.cells #[.int .u8 (h : Int), .int .u64 (k : Int)] 149)) := (Chg.refl _ _).alloc _
  have hcell0 := blk_cell (blk_new w (.cells #[.int .u8 (h : Int), .int .u64 (k : Int)] 149)) 0 rfl
  have hcell1 := blk_cell (blk_new w (.cells #[.int .u8 (h : Int), .int .u64 (k : Int)] 149)) 1 rfl
  generalize w.alloc _ = w1 at *
  go_quiet ((go_at_call 105; exact Calls.quiet_of_same (hno _)))
  clear q1 q2 q3 q4 hsh hdiv
  go_wp2
  go_ret2
  exact ⟨by rw [show ((nn + h : Nat) : Int) = (nn : Int) + h from by omega]; rfl, hc.drewN _⟩
/-! Rows of numbers of the call's own. -/
theorem u_u64s : Tryd.prog.underlying 112 = some (.slice 40) := by kernel_rfl
theorem i_u64 : (Tryd.prog.info? 40).map (fun i => (i.zero, i.size, i.bytes)) = some (some (.int .u64 0), 1, 8) := by kernel_rfl
theorem infoOfU {P : Program} {t : TypeId} {z : Value} {n k : Nat} (h : (P.info? t).map (fun i => (i.zero, i.size, i.bytes)) = some (some z, n, k)) : ∃ i, P.info? t = some i ∧ i.zero = some z ∧ i.size = n ∧ i.bytes = k := by
  cases hi : P.info? t with
  | none => simp [hi] at h
  | some i => simp [hi] at h; exact ⟨i, rfl, h⟩
def UOwn (w : World) (B : Nat) (v : Value) (l : List Nat) : Prop := w.ownsRow B 40 1 v l.length (l.map fun (n : Nat) => Value.int .u64 (n : Int))
theorem UOwn.nil (w : World) (B : Nat) : UOwn w B (.slice none 0 0) [] := own_nil _ _ _ _
theorem UOwn.push {w : World} {B : Nat} {v : Value} {l : List Nat} (h : UOwn w B v l) (x : Nat) (hlen : l.length ≤ 1099511627776) (hB : B ≤ w.heap.size) (ty : TypeId) :
    ∃ v' w', (Builtin.append_ #[112, 112] ty #[v, .slice (some ⟨w.heap.size, 0, none⟩) 1 1]).run Tryd.prog (w.alloc (.cells #[.int .u64 x] 40)) = .ok v' w' ∧ UOwn w' B v' (l ++ [x]) ∧ Chg (ob v) w w' ∧ (∀ k ∈ ob v', k ∈ ob v ∨ w.heap.size ≤ k) := by
  obtain ⟨i, hi, hz, hsz, hby⟩ := infoOfU i_u64
  have hc : Chg [] w (w.alloc (.cells #[.int .u64 x] 40)) := (Chg.refl _ _).alloc _
  have h1 := own_chg h hc (by simp)
  obtain ⟨v', w', hr, h2, h3, h4⟩ := run_append_any (P := Tryd.prog) (w.alloc (.cells #[.int .u64 x] 40)) B 112 ty 40 i _ 1 8 u_u64s hi hz hsz hby rfl (by decide) v l.length _ h1 (some ⟨w.heap.size, 0, none⟩) 1 1 [.int .u64 x]
    ⟨rfl, fun _ => ⟨w.heap.size, 0, rfl, fun j u hu => by
      have : j = 0 := by
        cases j with
        | zero => rfl
        | succ j => simp at hu
      subst this
      simp at hu
      subst hu
      exact blk_cell (blk_new w _) 0 rfl⟩⟩ (by intro u hu; simp at hu; subst hu; rfl) (by unfold maxLen; omega) (by omega) (by have := hc.size; omega)
  refine ⟨v', w', hr, ?_, hc.of_nil.trans h3 (fun k hk => .inl hk), fun k hk => ?_⟩
  · unfold UOwn
    rw [List.length_append, List.map_append]
    exact h2
  · rcases h4 k hk with q | q
    · exact .inl q
    · right; have := hc.size; omega
theorem and1 (q : Nat) (h : q < 18446744073709551616) : bits BinOp.and IntKind.u64 (q : Int) 1 = ((q % 2 : Nat) : Int) := by
  have := u64_and_nat q 1 h (by omega)
  rw [show ((1 : Nat) : Int) = 1 from rfl] at this
  rw [this, Nat.and_one_is_mod]
def PeaksP (w : World) (l : List Nat) (e : Ending) (w' : World) : Prop := ∃ v, e = .returned v ∧ UOwn w' w.heap.size v l ∧ Chg [] w w'
set_option maxRecDepth 100000 in
theorem peaksl_calls (n : Nat) (hn : n ≤ 4611686018427387904) (w : World) : Calls Tryd.prog 54 #[.int .u64 n] w (PeaksP w (peaksN n)) := by
  have hnd : decide ((n : Int) ≤ 4611686018427387904) = true := decide_eq_true (by omega)
  go_enter Tryd.func54, Tryd.ntmps54
  go_wp2
  go_loopg [3, 4] 63 (fun g vv hh wx => ∃ c : Nat, c ≤ 63 ∧ g = 63 - c ∧ hh = .int .i64 (62 - (c : Int)) ∧ UOwn wx w.heap.size vv (pkL n c) ∧ Chg [] w wx)
  case atStart => exact ⟨0, by omega, rfl, rfl, UOwn.nil _ _, Chg.refl _ _⟩
  case round =>
    obtain ⟨c, hc, hg, rfl, hO, hC⟩ := hrel
    by_cases h63 : c = 63
    · subst h63
      clear hg
      go_wp2
      go_ret
      exact ⟨_, rfl, hO, hC⟩
    · have hcl : c ≤ 62 := by omega
      have hsu := pkL_succ n c
      have ec : ((62 - c : Nat) : Int) = 62 - (c : Int) := by omega
      obtain ⟨h, hh⟩ : ∃ h, h = 62 - c := ⟨_, rfl⟩
      rw [← hh] at hsu ec
      rw [← ec]
      have h62 : h ≤ 62 := by omega
      have hd : (n : Int) / 2 ^ h = ((n / 2 ^ h : Nat) : Int) := by rw [← pow_i]; simp
      by_cases hb : n / 2 ^ h % 2 = 1
      · rw [if_pos hb] at hsu
        have hq1 : 1 ≤ n / 2 ^ h := Nat.pos_of_ne_zero (by intro e; rw [e] at hb; simp at hb)
        have hle := Nat.div_mul_le_self n (2 ^ h)
        have hpl := fun w => place_calls h (n / 2 ^ h - 1) h62 (by rw [show n / 2 ^ h - 1 + 1 = n / 2 ^ h from by omega]; omega) w
        rw [show n / 2 ^ h - 1 + 1 = n / 2 ^ h from by omega, show ((n / 2 ^ h - 1 : Nat) : Int) = ((n / 2 ^ h : Nat) : Int) - 1 from by omega] at hpl
        have hlen : (pkL n c).length ≤ 1000 := by unfold pkL; rw [List.length_map]; exact Nat.le_trans (List.length_filter_le _ _) (by simp; omega)
        have hpk : nodesN (n / 2 ^ h * 2 ^ h - 1) + h = pk n h := rfl
        rw [hpk] at hpl
        have hle2 : n / 2 ^ h ≤ n := Nat.div_le_self _ _
        have HSU := Lib.hid hsu
        have HH := Lib.hid hh
        clear hsu hpk hh ec hle
        generalize n / 2 ^ h = q at *
        generalize pk n h = pp at *
        have hbt : (bits BinOp.and IntKind.u64 (q : Int) 1 == 1) = true := by rw [and1 q (by omega), beq_iff_eq]; omega
        clear hb
        go_upto_region 7 with (go_at_call 87; refine (hpl _).mono ?_; rintro e w1 ⟨rfl, hc1⟩)
        have hO1 : UOwn w1 w.heap.size _ (pkL n c) := own_chg hO hc1 (by simp)
        obtain ⟨v2, w2, hrun, hO2, hc2, hob⟩ := hO1.push pp (by omega) (by have := hC.size; have := hc1.size; omega) 112
        have hol := own_lt hO1
        have HW : Chg [] w w2 := (hC.nil_trans hc1).trans hc2 (fun k hk => .inr (hol k hk).1)
        clear hO hO1 hol hob hc2 hc1 hpl hd
        go_wp2_with (at_builtin; refine Lib.wpList_append_run _ rfl _ _ _ _ rfl _ _ rfl rfl _ _ hrun ?_)
        go_roundg (63 - (c + 1))
        case measure => omega
        case rel => exact ⟨c + 1, by omega, rfl, by rw [show (h : Int) - 1 = 62 - ((c + 1 : Nat) : Int) from by have := HH.out; omega], by rw [HSU.out]; exact hO2, HW⟩
      · rw [if_neg hb] at hsu
        have hle2 : n / 2 ^ h ≤ n := Nat.div_le_self _ _
        have HSU := Lib.hid hsu
        have HH := Lib.hid hh
        clear hsu hh ec
        generalize n / 2 ^ h = q at *
        have hbt : (bits BinOp.and IntKind.u64 (q : Int) 1 == 1) = false := by rw [and1 q (by omega), beq_eq_false_iff_ne]; omega
        clear hb
        go_wp2
        go_roundg (63 - (c + 1))
        case measure => omega
        case rel => exact ⟨c + 1, by omega, rfl, by rw [show (h : Int) - 1 = 62 - ((c + 1 : Nat) : Int) from by have := HH.out; omega], by rw [HSU.out]; exact hO, hC⟩
end Go.Proofs.YtnodjlgihhinpaaDoor

/- slices.AppendSeq and slices.Collect at the store's keys: contracts. -/
import Derived.Test.YtonppfebmeehcaaItA
import Derived.Test.YtonppfebmeehcaaOwn
namespace Go.Proofs.Ytonppfebmeehcaa
open Go.RowKit Go.Shelf
set_option linter.unusedVariables false
set_option linter.unusedSimpArgs false
attribute [local go_sem] Oper.semAt_some

/-! Rows of keys of the call's own. -/
theorem u_keys : Try.prog.underlying 99 = some (.slice 102) := by kernel_rfl
theorem i_key : (Try.prog.info? 102).map (fun i => (i.zero, i.size, i.bytes)) = some (some (.agg #[.int .u64 0]), 1, 8) := by kernel_rfl
theorem infoOfK {P : Program} {t : TypeId} {z : Value} {n k : Nat} (h : (P.info? t).map (fun i => (i.zero, i.size, i.bytes)) = some (some z, n, k)) : ∃ i, P.info? t = some i ∧ i.zero = some z ∧ i.size = n ∧ i.bytes = k := by
  cases hi : P.info? t with
  | none => simp [hi] at h
  | some i => simp [hi] at h; exact ⟨i, rfl, h⟩
def KOwn (w : World) (B : Nat) (v : Value) (l : List Nat) : Prop := w.ownsRow B 102 1 v l.length (l.map fun (n : Nat) => Value.int .u64 (n : Int))
theorem KOwn.nil (w : World) (B : Nat) : KOwn w B (.slice none 0 0) [] := own_nil _ _ _ _
theorem KOwn.push {w : World} {B : Nat} {v : Value} {l : List Nat} (h : KOwn w B v l) (x : Nat) (hlen : l.length ≤ 1099511627776) (hB : B ≤ w.heap.size) (ty : TypeId) :
    ∃ v' w', (Builtin.append_ #[99, 99] ty #[v, .slice (some ⟨w.heap.size, 0, none⟩) 1 1]).run Try.prog (w.alloc (.cells #[.int .u64 x] 102)) = .ok v' w' ∧ KOwn w' B v' (l ++ [x]) ∧ Chg (ob v) w w' ∧ (∀ k ∈ ob v', k ∈ ob v ∨ w.heap.size ≤ k) := by
  obtain ⟨i, hi, hz, hsz, hby⟩ := infoOfK i_key
  have hc : Chg [] w (w.alloc (.cells #[.int .u64 x] 102)) := (Chg.refl _ _).alloc _
  have h1 := own_chg h hc (by simp)
  obtain ⟨v', w', hr, h2, h3, h4⟩ := run_append_any (P := Try.prog) (w.alloc (.cells #[.int .u64 x] 102)) B 99 ty 102 i _ 1 8 u_keys hi hz hsz hby rfl (by decide) v l.length _ h1 (some ⟨w.heap.size, 0, none⟩) 1 1 [.int .u64 x]
    ⟨rfl, fun _ => ⟨w.heap.size, 0, rfl, fun j u hu => by
      have : j = 0 := by
        cases j with
        | zero => rfl
        | succ j => simp at hu
      subst this
      simp at hu
      subst hu
      exact blk_cell (blk_new w _) 0 rfl⟩⟩ (by intro u hu; simp at hu; subst hu; rfl) (by unfold maxLen; omega) (by omega) (by have := hc.size; omega)
  refine ⟨v', w', hr, ?_, hc.of_nil.trans h3 (fun k hk => .inl hk), fun k hk => ?_⟩
  · unfold KOwn
    rw [List.length_append, List.map_append]
    exact h2
  · rcases h4 k hk with q | q
    · exact .inl q
    · right; have := hc.size; omega
theorem KOwn.shape {w : World} {B : Nat} {v : Value} {l : List Nat} (h : KOwn w B v l) : ∃ a cap, v = .slice a l.length cap := by
  rcases h.2 with ⟨rfl, h0⟩ | ⟨g, cap, cur, rfl, _⟩
  · exact ⟨none, 0, by rw [h0]⟩
  · exact ⟨_, cap, rfl⟩

def apK (ts : Array TypeId) (ty : TypeId) (xs : Array Value) : Sem Value := Builtin.append_ ts ty xs
theorem hold_apK (ts : Array TypeId) (ty : TypeId) (xs : Array Value) : Builtin.append_ ts ty xs = apK ts ty xs := rfl
attribute [local go_sem ↓] hold_apK

/-- What collecting comes to. -/
def CollP (S : List Nat → Prop) (w : World) (e : Ending) (w' : World) : Prop := ∃ v ks, e = .returned v ∧ S ks ∧ KOwn w' w.heap.size v ks ∧ Chg [] w w'
/-- Between two rounds: the box in block B holds the row of what has come; nothing below B has changed. -/
def CollI (w : World) (pre : List Nat) (D : List Nat) (W : World) : Prop :=
  ∃ v, D = w.heap.size :: ob v ∧ W.heap[w.heap.size]? = some (.cells #[v] 99 (0, 0)) ∧ KOwn W w.heap.size v pre ∧ w.heap.size ∉ ob v ∧ Chg [] w W
theorem CollI.stays (w : World) : Stays (w.heap.size + 1) (CollI w) := by
  rintro pre D W W' F ⟨v, rfl, hb, ho, hn, hc⟩ hcF hF
  exact ⟨v, rfl, hcF.at hb (fun h => (hF _ h).1 (by simp)), own_chg ho hcF (fun k hk h => (hF _ h).1 (by simp [hk])), hn, hc.trans hcF (fun x hx => .inr (by have := (hF x hx).2; omega))⟩
/-- Behind the assignment to the loop's variable. -/
def CollA (w : World) (f : Nat → Act) (x : Nat) (a' : Act) (pre : List Nat) (D : List Nat) (W : World) : Prop :=
  ∃ Bx v, a' = f Bx ∧ D = Bx :: w.heap.size :: ob v ∧ W.heap[Bx]? = some (.cells #[.int .u64 (x : Nat)] 102 (0, 0)) ∧ w.heap.size < Bx ∧ Bx ∉ ob v ∧ W.heap[w.heap.size]? = some (.cells #[v] 99 (0, 0)) ∧ KOwn W w.heap.size v pre ∧ w.heap.size ∉ ob v ∧ Chg [] w W
theorem CollA.stays (w : World) (f : Nat → Act) (x : Nat) (a' : Act) : Stays (w.heap.size + 1) (CollA w f x a') := by
  rintro pre D W W' F ⟨Bx, v, rfl, rfl, hx, h1, h2, hb, ho, hn, hc⟩ hcF hF
  exact ⟨Bx, v, rfl, rfl, hcF.at hx (fun h => (hF _ h).1 (by simp)), h1, h2, hcF.at hb (fun h => (hF _ h).1 (by simp)), own_chg ho hcF (fun k hk h => (hF _ h).1 (by simp [hk])), hn, hc.trans hcF (fun x hx => .inr (by have := (hF x hx).2; omega))⟩
set_option maxRecDepth 100000 in
set_option maxHeartbeats 2000000 in
theorem appseq_calls (gf : Nat) (lb : Array Value) (S Sp : List Nat → Prop) (foot : List Nat) (w : World) (eg : ∀ args w, (callFunc gf args).run Try.prog w = .ok (.enter gf args) w)
    (hseq : Seq Try.prog gf lb (fun k => #[encK k]) S Sp foot w) (hft : ∀ k ∈ foot, k < w.heap.size) (hSp : ∀ pre, Sp pre → pre.length ≤ 1099511627776) :
    Calls Try.prog 95 #[.slice none 0 0, .func (.func gf) #[] lb] w (CollP S w) := by
  refine callsIn_wide (n := 0).1 ?_
  refine callsIn_of_wp_marks Try.func95 rfl trivial ?_ rfl
  simp only [Try.ntmps95, List.size_toArray, List.length_cons, List.length_nil, Nat.reduceAdd, Nat.reduceSub, Array.replicate_succ, Array.replicate_zero, List.push_toArray, List.append_toArray, List.nil_append, List.cons_append]
  gi_wp2
  have hb := blk_new w (.cells #[.slice none 0 0] 99)
  have hc1 : Chg [] w (w.alloc (.cells #[.slice none 0 0] 99)) := (Chg.refl _ _).alloc _
  have hs1 : (w.alloc (.cells #[.slice none 0 0] 99)).heap.size = w.heap.size + 1 := by simp
  generalize w.alloc (.cells #[.slice none 0 0] 99) = w1 at *
  refine wpIn_range (gf := gf) (lb := lb) rfl eg hseq hc1 (fun _ => rfl) (CollI w) (fun _ _ _ _ => False) [w.heap.size] (fun k hk => by simp at hk; subst hk; exact ⟨by omega, fun h => by have := hft _ h; omega⟩) (fun k hk => by have := hft k hk; omega)
    (by rw [hs1]; exact CollI.stays w) (fun c pre D W W' F h => h.elim) ⟨_, rfl, hb, KOwn.nil _ _, by simp [ob_nil], hc1⟩
    (fun x => CollA w (fun Bx => { tmps := #[.slice none 0 0, .func (.func gf) #[] lb, .pointer (some ⟨w.heap.size, 0, none⟩), undef, .slice none 0 0, .pointer (some ⟨Bx, 0, none⟩), .func (.func gf) #[] lb, encK x, undef, undef, undef, undef, undef], defers := [] }) x)
    (fun x a' => by rw [hs1]; exact CollA.stays w _ x a') ?assign ?body ?done ?stop
  case assign =>
    rintro l pre x W D1 K ⟨v, rfl, hb, ho, hn, hc⟩ hd hsp hK
    have hz := (blk_lt hb)
    unfold encK
    gi_wp2
    refine hK _ _ (W.heap.size :: w.heap.size :: ob v) ?_ ((Chg.refl _ _).alloc _) ⟨W.heap.size, v, rfl, rfl, blk_new W _, hz, fun h => by have := (own_lt ho _ h).2; omega, blk_alloc hb _, own_chg ho ((Chg.refl [] W).alloc _) (by simp), hn, hc.alloc _⟩
    intro k hk
    rcases List.mem_cons.1 hk with q | hk
    · subst q; exact ⟨by simp, .inr (Nat.le_refl _)⟩
    · exact ⟨by have := hd k hk; simp; omega, .inl hk⟩
  case body =>
    rintro l pre x a' W D1 ⟨Bx, v, rfl, rfl, hx, hx1, hx2, hb, ho, hn, hc⟩ hd hsp
    have hcx : W.cell? ⟨Bx, 0, none⟩ = some (.int .u64 (x : Nat)) := blk_cell hx 0 rfl
    have hcb : W.cell? ⟨w.heap.size, 0, none⟩ = some v := blk_cell hb 0 rfl
    have hcz := blk_lt hb
    have hln := hSp _ hsp
    have hW := hc.size
    obtain ⟨v2, W2, hrun, hO2, hc2, hob⟩ := ho.push x (by simp at hln; omega) hW 99
    have hrun : (apK #[99, 99] 99 #[v, .slice (some ⟨W.heap.size, 0, none⟩) 1 1]).run Try.prog (W.alloc (.cells #[.int .u64 (x : Nat)] 102)) = .ok v2 W2 := hrun
    obtain ⟨a2, cap2, hv2⟩ := hO2.shape
    subst hv2
    have hb2 := hc2.at hb hn
    have hf2 := blk_frozen hb2 0
    have hcb2 : W2.cell? ⟨w.heap.size, 0, none⟩ = some v := blk_cell hb2 0 rfl
    gi_wp2
    rw [show (pre ++ [x]).length = pre.length + 1 from by simp] at hO2 hob
    have hz2 := hc2.size
    have hn2 : w.heap.size ∉ ob (.slice a2 (pre.length + 1) cap2) := fun h => (hob _ h).elim hn (fun q => by omega)
    have hs3 : Chg [w.heap.size] W2 (W2.setCell ⟨w.heap.size, 0, none⟩ (.slice a2 (pre.length + 1) cap2)) := (Chg.refl _ _).setCell (.inl (by simp)) _
    refine ⟨w.heap.size :: ob (.slice a2 (pre.length + 1) cap2), ?_, ?_, ⟨_, rfl, blk_set hb2 0 _, own_chg hO2 hs3 (fun k hk h => by simp at h; subst h; exact hn2 hk), hn2, ?_⟩⟩
    · intro k hk
      rcases List.mem_cons.1 hk with q | hk
      · subst q; exact ⟨by have := hs3.size; omega, .inl (by simp)⟩
      · refine ⟨by have := (own_lt hO2 _ hk).2; have := hs3.size; omega, ?_⟩
        exact (hob k hk).imp (fun q => by simp [q]) id
    · exact (hc2.mono (fun k hk _ => by simp [hk])).trans hs3 (fun k hk => by simp at hk; simp [hk])
    · exact (hc.trans hc2 (fun k hk => .inr (own_lt ho k hk).1)).trans hs3 (fun k hk => .inr (by simp at hk; omega))
  case done =>
    rintro D ks D1 W hD hDn hS ⟨v, rfl, hb, ho, hn, hc⟩ hK
    have hcb : W.cell? ⟨w.heap.size, 0, none⟩ = some v := blk_cell hb 0 rfl
    gi_wp2
    refine ⟨by simp, .inl ⟨_, _, rfl, run_takeDeferred hK, ?_⟩⟩
    have hp : Chg [D] W (W.putObj D (.deferred none)) := chg_put _ _ _
    refine ⟨_, results_tmp rfl _ _ _, v, ks, rfl, hS, own_chg ho hp (fun k hk h => hDn (by simp at h; subst h; simp [hk])), hc.trans hp (fun x hx => .inr (by simp at hx; omega))⟩
  case stop =>
    rintro D c pre D1 W hD hDn hSp h
    exact h.elim
theorem collect_calls (gf : Nat) (lb : Array Value) (S Sp : List Nat → Prop) (foot : List Nat) (w : World) (eg : ∀ args w, (callFunc gf args).run Try.prog w = .ok (.enter gf args) w)
    (hseq : Seq Try.prog gf lb (fun k => #[encK k]) S Sp foot w) (hft : ∀ k ∈ foot, k < w.heap.size) (hSp : ∀ pre, Sp pre → pre.length ≤ 1099511627776) :
    Calls Try.prog 82 #[.func (.func gf) #[] lb] w (CollP S w) := by
  have hA := appseq_calls gf lb S Sp foot w eg hseq hft hSp
  go_enter Try.func82, Try.ntmps82
  go_wp2_with (go_at_call 95; refine hA.mono ?_; rintro e w1 ⟨v, ks, rfl, hS, hO, hc⟩)
  go_ret
  exact ⟨v, ks, rfl, hS, hO, hc⟩
end Go.Proofs.Ytonppfebmeehcaa

/- Texts put into one by pack.py: StA Own DcA StB StF DcB DcC DcD. -/
import Derived.Lib.Hide
import Derived.Maps.AppendAt
import Derived.Deep.AppendLies
import Derived.OwnWalk
import Derived.Lib.AppendZeros
import Derived.BigRegion
import Derived.RegionTactic
import Derived.Deep.Cut
import Derived.Deep.RegionHeld3
import Derived.BigQuiet
import Derived.Deep.LoopGhost
import Derived.Test.YtpklkefnmoaaaaaGreatDoorPkA
/- The store's small functions: contracts. -/
namespace Go.Proofs.YtpklkefnmoaaaaaGreatDoor
open Go.RowKit
set_option linter.unusedVariables false
set_option linter.unusedSimpArgs false

theorem and_mask (p log : Nat) (hl : log ≤ 16) (hp : p < 18446744073709551616) :
    wrap64 (bits BinOp.and IntKind.u64 (p : Int) (IntKind.u64.wrap (IntKind.u64.wrap (2 ^ log) - 1))) = ((p % 2 ^ log : Nat) : Int) := by
  have h1 : (2 ^ log : Nat) ≤ 65536 := by
    calc 2 ^ log ≤ 2 ^ 16 := Nat.pow_le_pow_right (by omega) hl
      _ = 65536 := by decide
  have h0 : 0 < (2 ^ log : Nat) := Nat.two_pow_pos _
  have h2 : ((2 : Int) ^ log) = ((2 ^ log : Nat) : Int) := by simp
  have hw : ∀ n : Int, 0 ≤ n → n < 2 ^ 64 → IntKind.u64.wrap n = n := fun n a b => by rw [IntKind.wrap_u64]; omega
  have e1 : IntKind.u64.wrap ((2 : Int) ^ log) = 2 ^ log := hw _ (by omega) (by omega)
  have e2 : IntKind.u64.wrap ((2 : Int) ^ log - 1) = 2 ^ log - 1 := hw _ (by omega) (by omega)
  rw [e1, e2, bits_mask .u64 64 (by decide) hw log (by omega) p (by omega) (by omega)]
  have h3 : (p : Int) % 2 ^ log = ((p % 2 ^ log : Nat) : Int) := by simp
  rw [h3]
  have h4 : p % 2 ^ log < 2 ^ log := Nat.mod_lt _ h0
  unfold wrap64
  omega

theorem spot_calls (b log p : Nat) (w : World) (hl : log ≤ 16) (hp : p < 18446744073709551616) (hb : b < w.heap.size) (hc : w.cell? ⟨b, 0, none⟩ = some (.int .i64 log)) :
    Calls Tryz.prog 173 #[.pointer (some ⟨b, 0, none⟩), .int .u64 p] w
      (Res w [] (.tuple #[.agg #[.int .u64 (qk log p)], .int .i64 (qa log p)])) := by
  unfold qk qa
  have hm := Lib.hid (and_mask p log hl hp)
  have hd : Hid ((p : Int) / 2 ^ log = ((p / 2 ^ log : Nat) : Int)) := by simp [Hid]
  go_enter Tryz.func173, Tryz.ntmps173
  go_wp2
  go_region
  all_goals go_wp2
  refine bodyPost_ret (v := .tuple #[.agg #[.int .u64 ((p / 2 ^ log : Nat) : Int)], .int .i64 ((p % 2 ^ log : Nat) : Int)]) ?_ rfl ⟨rfl, ?_⟩
  · rw [← hd.out, ← hm.out]
    simp [results, Tryz.results173, go_sem]
  · exact ((Chg.refl _ _).alloc _).drew
end Go.Proofs.YtpklkefnmoaaaaaGreatDoor

/- Rows that a call owns, appended to from any slice (the kit's words for memory, turned to Chg). Nothing of a program. -/
namespace Go.Proofs.YtpklkefnmoaaaaaGreatDoor
open Go.RowKit
set_option linter.unusedVariables false
set_option linter.unusedSimpArgs false

/-- The cells behind a slice of m elements. -/
def Rd (w : World) (size : Nat) (A : Option Addr) (m : Nat) (xs : List Value) : Prop :=
  xs.length = m * size ∧ (0 < m → ∃ b o, A = some ⟨b, o, none⟩ ∧ ∀ j u, xs[j]? = some u → w.cell? ⟨b, o + j, none⟩ = some u)
/-- The block of a slice. -/
def ob (v : Value) : List Nat := v.ownBlock.toList
theorem ob_nil : ob (.slice none 0 0) = [] := rfl
theorem ob_some (g o n c : Nat) : ob (.slice (some ⟨g, o, none⟩) n c) = [g] := rfl
theorem World.grownBy.chg {w w' : World} {v : Value} (h : w.grownBy w' v.ownBlock) : Chg (ob v) w w' := Chg.of_grown h (fun k hk => .inl (by simp [ob, hk]))

section
variable {P : Program} (w : World)
theorem run_append_of_nil (base : Nat) (t ty e : TypeId) (i : TypeInfo) (size : Nat) (ht : P.underlying t = some (.slice e)) (hi : P.info? e = some i)
    (v : Value) (n : Nat) (xs : List Value) (hown : w.ownsRow base e size v n xs) (c : Nat) : (Builtin.append_ #[t, t] ty #[v, .slice none 0 c]).run P w = .ok v w := by
  rcases hown.2 with ⟨rfl, rfl⟩ | ⟨g, cap, cur, rfl, _, _, hnc, _⟩
  · simp [Builtin.append_, run_underlying ht, sizeOf, typeInfo, hi, Builtin.lenOf, Builtin.firstCells]
  · simp [Builtin.append_, run_underlying ht, sizeOf, typeInfo, hi, Builtin.lenOf, Builtin.firstCells, hnc, storeCells]
theorem run_append_any (base : Nat) (t ty e : TypeId) (i : TypeInfo) (z : Value) (size bytes : Nat) (ht : P.underlying t = some (.slice e)) (hi : P.info? e = some i) (hz : i.zero = some z)
    (hsize : i.size = size) (hby : i.bytes = bytes) (hzs : z.cells.size = size) (hsz : 0 < size)
    (v : Value) (n : Nat) (xs : List Value) (hown : w.ownsRow base e size v n xs)
    (A : Option Addr) (m c : Nat) (news : List Value) (hr : Rd w size A m news) (h1 : ∀ u ∈ news, u.oneCell' = true)
    (h63 : n + m ≤ maxLen) (hbytes : (n + m) * bytes ≤ 140737488355328) (hbase : base ≤ w.heap.size) :
    ∃ v' w', (Builtin.append_ #[t, t] ty #[v, .slice A m c]).run P w = .ok v' w' ∧ w'.ownsRow base e size v' (n + m) (xs ++ news) ∧ Chg (ob v) w w' ∧ (∀ k ∈ ob v', k ∈ ob v ∨ w.heap.size ≤ k) := by
  have key : ∀ (ad : Addr), A = some ad → (∀ j u, news[j]? = some u → w.cell? (ad.add j) = some u) → ∃ v' w', (Builtin.append_ #[t, t] ty #[v, .slice A m c]).run P w = .ok v' w' ∧ w'.ownsRow base e size v' (n + m) (xs ++ news) ∧ Chg (ob v) w w' ∧ (∀ k ∈ ob v', k ∈ ob v ∨ w.heap.size ≤ k) := by
    intro ad hA hcells
    subst hA
    obtain ⟨v', w', hrun, h2, h3, _, h5⟩ := run_append_own_at (P := P) w base t ty e i z size bytes ht hi hz hsize hby hzs hsz v n xs hown ad m c news hr.1 hcells h1 h63 hbytes hbase
    refine ⟨v', w', hrun, h2, World.grownBy.chg h3, fun k hk => ?_⟩
    unfold ob at hk ⊢
    rcases h5 with q | q
    · rw [q] at hk; exact .inl hk
    · rw [q] at hk; simp at hk; exact .inr (by omega)
  rcases Nat.eq_zero_or_pos m with h0 | h0
  · subst h0
    have hn : news = [] := List.eq_nil_of_length_eq_zero (by simpa using hr.1)
    subst hn
    cases A with
    | none => exact ⟨v, w, run_append_of_nil w base t ty e i size ht hi v n xs hown c, by simpa using hown, Chg.refl _ _, fun k hk => .inl hk⟩
    | some ad => exact key ad rfl (by simp)
  · obtain ⟨b, o, hA, hc⟩ := hr.2 h0
    refine key ⟨b, o, none⟩ hA (fun j u hu => ?_)
    have := hc j u hu
    by_cases hj : j = 0
    · subst hj; simpa [Addr.add] using this
    · simpa [Addr.add, hj] using this
end

section
variable {w : World} {base : Nat} {e : TypeId} {size n : Nat} {v : Value} {xs : List Value}
theorem own_lt (h : w.ownsRow base e size v n xs) : ∀ k ∈ ob v, base ≤ k ∧ k < w.heap.size := by
  intro k hk
  rcases h.2 with ⟨rfl, _⟩ | ⟨g, cap, cur, rfl, hb, hh, _⟩
  · simp [ob, Value.ownBlock] at hk
  · simp [ob, Value.ownBlock] at hk
    subst hk
    exact ⟨hb, blk_lt hh⟩
theorem own_chg {w' : World} {F : List Nat} (h : w.ownsRow base e size v n xs) (hc : Chg F w w') (hF : ∀ k ∈ ob v, k ∉ F) : w'.ownsRow base e size v n xs := by
  refine ⟨h.1, ?_⟩
  rcases h.2 with hv | ⟨g, cap, cur, rfl, hb, hh, hr⟩
  · exact .inl hv
  · exact .inr ⟨g, cap, cur, rfl, hb, hc.at hh (hF g (by simp [ob, Value.ownBlock])), hr⟩
theorem own_mono {B : Nat} (h : w.ownsRow base e size v n xs) (hB : B ≤ base) : w.ownsRow B e size v n xs := by
  refine ⟨h.1, ?_⟩
  rcases h.2 with hv | ⟨g, cap, cur, hv, hb, hr⟩
  · exact .inl hv
  · exact .inr ⟨g, cap, cur, hv, by omega, hr⟩
theorem own_nil (w : World) (base : Nat) (e : TypeId) (size : Nat) : w.ownsRow base e size (.slice none 0 0) 0 [] := ⟨by simp, .inl ⟨rfl, rfl⟩⟩
theorem own_new (w : World) (base : Nat) (e : TypeId) (size n : Nat) (cs : Array Value) (hb : base ≤ w.heap.size) (hs : cs.size = n * size) (hn : n ≤ maxLen) : (w.alloc (.cells cs e)).ownsRow base e size (.slice (some ⟨w.heap.size, 0, none⟩) n n) n cs.toList :=
  ⟨by rw [Array.length_toList]; exact hs, .inr ⟨w.heap.size, n, cs, rfl, hb, blk_new w _, Nat.le_refl _, hn, hs, by rw [← hs, ← Array.length_toList, List.take_length]⟩⟩
theorem own_rd {A : Option Addr} {c : Nat} (h : w.ownsRow base e size (.slice A n c) n xs) : Rd w size A n xs := by
  refine ⟨h.1, fun hn => ?_⟩
  rcases h.2 with ⟨hv, h0⟩ | ⟨g, cap, cur, hv, hb, hh, hnc, _, hcs, ht⟩
  · omega
  · injection hv with hA
    refine ⟨g, 0, hA, fun j u hu => ?_⟩
    rw [Nat.zero_add]
    refine blk_cell hh j ?_
    rw [← ht, List.getElem?_take] at hu
    split at hu
    · simpa using hu
    · cases hu
end
end Go.Proofs.YtpklkefnmoaaaaaGreatDoor

/- The document's store: a plain list of nodes; what it is in memory. -/
namespace Go.Proofs.YtpklkefnmoaaaaaGreatDoor
open Go.RowKit
set_option linter.unusedVariables false
set_option linter.unusedSimpArgs false

/-- A row of elements whose array may be longer than the slice has room for. -/
def LRow (w : World) (e : TypeId) (size : Nat) (v : Value) (n : Nat) (xs : List Value) : Prop :=
  xs.length = n * size ∧ ((v = .slice none 0 0 ∧ n = 0) ∨ ∃ g cap cur, v = .slice (some ⟨g, 0, none⟩) n cap ∧ w.heap[g]? = some (.cells cur e (0, 0)) ∧ n ≤ cap ∧ cap ≤ maxLen ∧ cap * size ≤ cur.size ∧ cur.toList.take (n * size) = xs)
theorem LRow.of_own {w : World} {base : Nat} {e : TypeId} {size n : Nat} {v : Value} {xs : List Value} (h : w.ownsRow base e size v n xs) : LRow w e size v n xs := by
  refine ⟨h.1, ?_⟩
  rcases h.2 with hv | ⟨g, cap, cur, rfl, hb, hh, h1, h2, h3, h4⟩
  · exact .inl hv
  · exact .inr ⟨g, cap, cur, rfl, hh, h1, h2, by omega, h4⟩
theorem LRow.chg {w w' : World} {e : TypeId} {size n : Nat} {v : Value} {xs : List Value} {F : List Nat} (h : LRow w e size v n xs) (hc : Chg F w w') (hF : ∀ k ∈ ob v, k ∉ F) : LRow w' e size v n xs := by
  refine ⟨h.1, ?_⟩
  rcases h.2 with hv | ⟨g, cap, cur, rfl, hh, hr⟩
  · exact .inl hv
  · exact .inr ⟨g, cap, cur, rfl, hc.at hh (hF g (by simp [ob, Value.ownBlock])), hr⟩
theorem LRow.lt {w : World} {e : TypeId} {size n : Nat} {v : Value} {xs : List Value} (h : LRow w e size v n xs) : ∀ k ∈ ob v, k < w.heap.size := by
  intro k hk
  rcases h.2 with ⟨rfl, _⟩ | ⟨g, cap, cur, rfl, hh, _⟩
  · simp [ob, Value.ownBlock] at hk
  · simp [ob, Value.ownBlock] at hk
    subst hk
    exact blk_lt hh
theorem LRow.rd {w : World} {e : TypeId} {size n c : Nat} {A : Option Addr} {xs : List Value} (h : LRow w e size (.slice A n c) n xs) : Rd w size A n xs := by
  refine ⟨h.1, fun hn => ?_⟩
  rcases h.2 with ⟨hv, h0⟩ | ⟨g, cap, cur, hv, hh, hnc, _, hcs, ht⟩
  · omega
  · injection hv with hA
    refine ⟨g, 0, hA, fun j u hu => ?_⟩
    rw [Nat.zero_add]
    refine blk_cell hh j ?_
    rw [← ht, List.getElem?_take] at hu
    split at hu
    · simpa using hu
    · cases hu
/-- One element more. -/
theorem LRow.append {P : Program} {w : World} {t ty e : TypeId} {i : TypeInfo} {z : Value} {size bytes : Nat} (ht : P.underlying t = some (.slice e)) (hi : P.info? e = some i) (hz : i.zero = some z)
    (hsize : i.size = size) (hby : i.bytes = bytes) (hzs : z.cells.size = size) (hsz : 0 < size)
    {v : Value} {n : Nat} {xs : List Value} (h : LRow w e size v n xs) (b m c : Nat) (hm0 : 0 < m) (news : List Value) (hl : news.length = m * size) (hnews : ∀ j u, news[j]? = some u → w.cell? ⟨b, j, none⟩ = some u) (h1 : ∀ u ∈ news, u.oneCell' = true)
    (h63 : n + m ≤ maxLen) (hbytes : (n + m) * bytes ≤ 140737488355328) :
    ∃ v' w', (Builtin.append_ #[t, t] ty #[v, .slice (some ⟨b, 0, none⟩) m c]).run P w = .ok v' w' ∧ LRow w' e size v' (n + m) (xs ++ news) ∧ Chg (ob v) w w' ∧ (∀ k ∈ ob v', k ∈ ob v ∨ w.heap.size ≤ k) := by
  have hadd : ∀ g j, (⟨g, 0, none⟩ : Addr).add j = ⟨g, j, none⟩ := by intro g j; unfold Addr.add; split <;> simp_all
  rcases h.2 with ⟨rfl, rfl⟩ | ⟨g, cap, cur, rfl, hh, hnc, hcm, hcs, htk⟩
  · have hx : xs = [] := List.eq_nil_of_length_eq_zero (by simpa using h.1)
    subst hx
    obtain ⟨v', w', hr, ho, hc, hf⟩ := run_append_any (P := P) w w.heap.size t ty e i z size bytes ht hi hz hsize hby hzs hsz (.slice none 0 0) 0 [] (own_nil _ _ _ _) (some ⟨b, 0, none⟩) m c news ⟨hl, fun _ => ⟨b, 0, rfl, fun j u hu => by rw [Nat.zero_add]; exact hnews j u hu⟩⟩ h1 h63 hbytes (Nat.le_refl _)
    exact ⟨v', w', hr, LRow.of_own ho, hc, hf⟩
  · by_cases hroom : n + m ≤ cap
    · have hfit : n * i.size + news.length ≤ cur.size := by
        rw [hl, hsize, ← Nat.add_mul]
        exact Nat.le_trans (Nat.mul_le_mul_right _ hroom) hcs
      have hr := run_append_room (P := P) w t ty e i ht hi g n cap cur hh ⟨b, 0, none⟩ m c news (by rw [hsize]; exact hl) (fun j u hu => by rw [hadd]; exact hnews j u hu) h1 hroom hfit
      refine ⟨_, _, hr, ⟨by rw [List.length_append, h.1, hl, Nat.add_mul], .inr ⟨g, cap, _, rfl, setRow_heap w g cur _ e _ hh, hroom, hcm, ?_, ?_⟩⟩, (Chg.refl _ _).setRow (by simp [ob, Value.ownBlock]) _, fun k hk => .inl hk⟩
      · simp only [List.size_toArray, List.length_append, List.length_take, List.length_drop, Array.length_toList]
        omega
      · rw [hsize, htk]
        have : (xs ++ news).length = (n + m) * size := by rw [List.length_append, h.1, hl, Nat.add_mul]
        rw [← this]
        exact List.take_left
    · obtain ⟨v', w', hr, ho, hg⟩ := run_append_arg_grows (P := P) w t ty e i z size bytes ht hi hz hsize hby hzs hsz ⟨g, 0, none⟩ n cap xs h.1
        (fun j u hu => by
          rw [hadd]
          refine blk_cell hh j ?_
          rw [← htk, List.getElem?_take] at hu
          split at hu
          · simpa using hu
          · cases hu) ⟨b, 0, none⟩ m c news hl (fun j u hu => by rw [hadd]; exact hnews j u hu) (by omega) h63 hbytes
      exact ⟨v', w', hr, LRow.of_own ho, Chg.of_grown hg (by simp), fun k hk => .inr (own_lt ho k hk).1⟩

/-! The nodes. -/
abbrev DN := Option (Array Value × Nat)
def dnH : DN → Array Value
  | some (h, _) => h
  | none => zeroHash
def dnK : DN → Nat
  | some (_, k) => k
  | none => 0
def rnOf (h : Array Value) (b : Bool) (k : Nat) : Array Value := (h.push (.bool b)).push (.int .i64 k)
def dnC (x : DN) : Array Value := rnOf (dnH x) x.isSome (dnK x)
def dnOk (x : DN) : Prop := ∀ h k, x = some (h, k) → IsHash h ∧ k < 4611686018427387904
theorem dnOk.is {x : DN} (h : dnOk x) : IsHash (dnH x) ∧ dnK x < 4611686018427387904 := by
  cases x with
  | none => exact ⟨zeroHash_is, by simp [dnK]⟩
  | some y => exact h y.1 y.2 rfl
theorem rnOf_size {h : Array Value} (hh : h.size = 32) (b : Bool) (k : Nat) : (rnOf h b k).size = 34 := by simp [rnOf, hh]
theorem rnOf_one {h : Array Value} (hh : one1 h = true) (b : Bool) (k : Nat) : one1 (rnOf h b k) = true := by
  unfold one1 at *
  rw [Array.all_eq_true_iff_forall_mem] at hh ⊢
  intro v hv
  simp only [rnOf, Array.mem_push] at hv
  rcases hv with (hv | rfl) | rfl
  · exact hh v hv
  · rfl
  · rfl
attribute [go_sem] rnOf_size rnOf_one
theorem dnC_size {x : DN} (h : dnOk x) : (dnC x).size = 34 := rnOf_size h.is.1.1 _ _
def dnF (ns : List DN) : List Value := ns.flatMap fun x => (dnC x).toList
theorem dnF_length {ns : List DN} (h : ∀ x ∈ ns, dnOk x) : (dnF ns).length = ns.length * 34 := by
  induction ns with
  | nil => rfl
  | cons x ns ih =>
    unfold dnF at ih ⊢
    rw [List.flatMap_cons, List.length_append, ih (fun y hy => h y (by simp [hy])), List.length_cons, Array.length_toList, dnC_size (h x (by simp))]
    omega
theorem dnF_append (a b : List DN) : dnF (a ++ b) = dnF a ++ dnF b := by simp [dnF]
theorem dnF_at {ns : List DN} (h : ∀ x ∈ ns, dnOk x) : ∀ (i : Nat) (hi : i < ns.length) (j : Nat) (hj : j < 34), (dnF ns)[i * 34 + j]? = (dnC ns[i])[j]? := by
  induction ns with
  | nil => intro i hi; simp at hi
  | cons x ns ih =>
    intro i hi j hj
    have hx := dnC_size (h x (by simp))
    have e : dnF (x :: ns) = (dnC x).toList ++ dnF ns := by simp [dnF]
    rw [e]
    cases i with
    | zero =>
      rw [List.getElem?_append_left (by simp; omega)]
      simp
    | succ i =>
      rw [List.getElem?_append_right (by simp; omega), Array.length_toList, hx, show (i + 1) * 34 + j - 34 = i * 34 + j from by omega, ih (fun y hy => h y (by simp [hy])) i (by simpa using hi) j hj]
      simp
theorem dnF_set {ns : List DN} (h : ∀ x ∈ ns, dnOk x) {i : Nat} (hi : i < ns.length) {x : DN} :
    dnF (ns.set i x) = (dnF ns).take (i * 34) ++ (dnC x).toList ++ (dnF ns).drop (i * 34 + 34) := by
  have hd : ns = ns.take i ++ (ns[i] :: ns.drop (i + 1)) := by rw [← List.drop_eq_getElem_cons hi, List.take_append_drop]
  have hc : ∀ (y : DN) (l : List DN), dnF (y :: l) = (dnC y).toList ++ dnF l := by intro y l; simp [dnF]
  have e1 : dnF ns = dnF (ns.take i) ++ ((dnC ns[i]).toList ++ dnF (ns.drop (i + 1))) := (congrArg dnF hd).trans (by rw [dnF_append, hc])
  have l1 : (dnF (ns.take i)).length = i * 34 := by
    rw [dnF_length (fun y q => h y (List.mem_of_mem_take q))]; simp; omega
  have l2 : (dnC ns[i]).toList.length = 34 := by rw [Array.length_toList]; exact dnC_size (h _ (List.getElem_mem hi))
  rw [List.set_eq_take_append_cons_drop, if_pos hi, dnF_append, hc, e1]
  generalize dnF (ns.take i) = A at *
  generalize (dnC ns[i]).toList = B at *
  generalize dnF (ns.drop (i + 1)) = C at *
  have e2 : (A ++ (B ++ C)).take (i * 34) = A := by rw [← l1, List.take_left]
  have e3 : (A ++ (B ++ C)).drop (i * 34 + 34) = C := by
    rw [← List.append_assoc, show i * 34 + 34 = (A ++ B).length from by simp [l1, l2], List.drop_left]
  rw [e2, e3]
  simp

/-- The document's store: its number, its row (a slice), its nodes. -/
structure DS where
  log : Nat
  A : Option Addr
  cap : Nat
  ns : List DN
def DS.sl (d : DS) : Value := .slice d.A d.ns.length d.cap
def DS.foot (d : DS) (b : Nat) : List Nat := b :: ob d.sl
structure DIs (w : World) (b : Nat) (d : DS) : Prop where
  head : w.heap[b]? = some (.cells #[.int .i64 d.log, .slice d.A d.ns.length d.cap] 156 (0, 0))
  row : LRow w 153 34 (.slice d.A d.ns.length d.cap) d.ns.length (dnF d.ns)
  apart : b ∉ ob d.sl
  ok : ∀ x ∈ d.ns, dnOk x
  log : d.log ≤ 16
  len : d.ns.length ≤ 4294967296
theorem DIs.chg {w w' : World} {b : Nat} {d : DS} {F : List Nat} (h : DIs w b d) (hc : Chg F w w') (hF : ∀ k ∈ d.foot b, k ∉ F) : DIs w' b d :=
  ⟨hc.at h.head (hF b (by simp [DS.foot])), h.row.chg hc (fun k hk => hF k (by simp only [DS.foot, List.mem_cons]; exact .inr hk)), h.apart, h.ok, h.log, h.len⟩
theorem DIs.chg0 {w w' : World} {b : Nat} {d : DS} (h : DIs w b d) (hc : Chg [] w w') : DIs w' b d := h.chg hc (by simp)
theorem DIs.lt {w : World} {b : Nat} {d : DS} (h : DIs w b d) : ∀ k ∈ d.foot b, k < w.heap.size := by
  intro k hk
  simp only [DS.foot, List.mem_cons] at hk
  rcases hk with rfl | hk
  · exact blk_lt h.head
  · exact h.row.lt k hk
theorem DIs.c0 {w : World} {b : Nat} {d : DS} (h : DIs w b d) : w.cell? ⟨b, 0, none⟩ = some (.int .i64 d.log) := blk_cell h.head 0 rfl
theorem DIs.c1 {w : World} {b : Nat} {d : DS} (h : DIs w b d) : w.cell? ⟨b, 1, none⟩ = some (.slice d.A d.ns.length d.cap) := blk_cell h.head 1 rfl
theorem DIs.blt {w : World} {b : Nat} {d : DS} (h : DIs w b d) : b < w.heap.size := blk_lt h.head
/-- One of its nodes. -/
structure DAt (w : World) (g i : Nat) (x : DN) : Prop where
  hash : rng? w g (i * 34) 32 = some (dnH x)
  live : w.cell? ⟨g, i * 34 + 32, none⟩ = some (.bool x.isSome)
  pins : w.cell? ⟨g, i * 34 + 33, none⟩ = some (.int .i64 (dnK x))
  may : may w g (i * 34) 34 = true
  fz : w.frozen? ⟨g, i * 34 + 33, none⟩ = false
  lt : g < w.heap.size
theorem DIs.at {w : World} {b : Nat} {d : DS} (h : DIs w b d) {i : Nat} (hi : i < d.ns.length) : ∃ g, d.A = some ⟨g, 0, none⟩ ∧ b ≠ g ∧ DAt w g i d.ns[i] := by
  rcases h.row.2 with ⟨hv, h0⟩ | ⟨g, cap, cur, hv, hh, hnc, _, hcs, ht⟩
  · omega
  · injection hv with hA hn hcap
    have hx := (h.ok _ (List.getElem_mem hi)).is
    have key : ∀ j, j < 34 → ∀ u, (dnC d.ns[i])[j]? = some u → w.cell? ⟨g, i * 34 + j, none⟩ = some u := by
      intro j hj u hu
      refine blk_cell hh (i * 34 + j) ?_
      have e := dnF_at h.ok i hi j hj
      rw [hu, ← ht, List.getElem?_take] at e
      split at e
      · simpa using e
      · cases e
    have hsz : i * 34 + 34 ≤ cur.size := by
      have : (i + 1) * 34 ≤ d.ns.length * 34 := Nat.mul_le_mul_right _ hi
      have : d.ns.length * 34 ≤ cap * 34 := Nat.mul_le_mul_right _ hnc
      omega
    refine ⟨g, hA, ?_, ⟨?_, ?_, ?_, may_row _ _ hh hsz, frozen_of_row _ _ _ _ _ hh, blk_lt hh⟩⟩
    · rintro rfl
      exact h.apart (by simp [DS.sl, hA, ob, Value.ownBlock])
    · refine rng?_mk hx.1.1 fun j hj => ?_
      have := hx.1.1
      refine key j (by omega) _ ?_
      unfold dnC rnOf
      rw [Array.getElem?_push_lt (by simp; omega), Array.getElem_push_lt (by omega)]
    · refine key 32 (by omega) _ ?_
      unfold dnC rnOf
      rw [Array.getElem?_push_lt (by simp [hx.1.1])]
      simp [Array.getElem_push, hx.1.1]
    · refine key 33 (by omega) _ ?_
      unfold dnC rnOf
      rw [Array.getElem?_push]
      simp [hx.1.1]
/-- A node is another one now. -/
theorem DIs.put {w w' : World} {b g i : Nat} {d : DS} (h : DIs w b d) (hi : i < d.ns.length) (hA : d.A = some ⟨g, 0, none⟩) {x : DN} (hx : dnOk x) (hc : Chg [g] w w')
    (hw : ∀ cur : Array Value, w.heap[g]? = some (.cells cur 153 (0, 0)) → i * 34 + 34 ≤ cur.size → cur.toList.take (d.ns.length * 34) = dnF d.ns → ∃ cur' : Array Value, w'.heap[g]? = some (.cells cur' 153 (0, 0)) ∧ cur'.toList = cur.toList.take (i * 34) ++ (dnC x).toList ++ cur.toList.drop (i * 34 + 34)) :
    DIs w' b { d with ns := d.ns.set i x } := by
  have hap := h.apart
  have hne : b ≠ g := by rintro rfl; exact hap (by simp [DS.sl, hA, ob, Value.ownBlock])
  have hok' : ∀ y ∈ d.ns.set i x, dnOk y := fun y hy => by
    rcases List.mem_or_eq_of_mem_set hy with q | rfl
    · exact h.ok y q
    · exact hx
  refine ⟨?_, ?_, ?_, hok', h.log, by simpa using h.len⟩
  · have := hc.at h.head (by simpa using hne)
    simpa using this
  · rcases h.row.2 with ⟨hv, h0⟩ | ⟨g', cap, cur, hv, hh, hnc, hcm, hcs, ht⟩
    · omega
    · injection hv with hA' hn hcap
      rw [hA] at hA'
      injection hA' with hA'
      injection hA' with hA'
      subst hA'
      have hsz : (i + 1) * 34 ≤ d.ns.length * 34 := Nat.mul_le_mul_right _ hi
      have hsz2 : d.ns.length * 34 ≤ cap * 34 := Nat.mul_le_mul_right _ hnc
      obtain ⟨cur', h1, h2⟩ := hw cur hh (by omega) ht
      have hxs : (dnC x).toList.length = 34 := by rw [Array.length_toList]; exact dnC_size hx
      have hcl : cur.toList.length = cur.size := Array.length_toList
      refine ⟨by simpa using dnF_length hok', .inr ⟨g, cap, cur', by simp [hA, hcap], h1, by simpa using hnc, hcm, ?_, ?_⟩⟩
      · rw [← Array.length_toList, h2]
        simp only [List.length_append, List.length_take, List.length_drop, hxs]
        omega
      · rw [h2, dnF_set h.ok hi, ← ht, List.length_set]
        generalize (dnC x).toList = X at *
        generalize cur.toList = C at *
        rw [List.take_take, Nat.min_eq_left (by omega)]
        have l1 : (C.take (i * 34) ++ X).length = i * 34 + 34 := by simp; omega
        rw [List.take_append, l1, List.take_of_length_le (by omega), List.drop_take]
  · simpa [DS.sl] using hap
theorem DIs.put_node {w : World} {b g i : Nat} {d : DS} (h : DIs w b d) (hi : i < d.ns.length) (hA : d.A = some ⟨g, 0, none⟩) {x : DN} (hx : dnOk x) :
    DIs (setRng w g (i * 34) (dnC x)) b { d with ns := d.ns.set i x } :=
  h.put hi hA hx (setRng_chg _ _ _ _) fun cur hh hs _ => ⟨_, setRng_heap hh (i * 34) (dnC x) (by rw [dnC_size hx]; exact hs), by rw [dnC_size hx]⟩
theorem DIs.put_pins {w : World} {b g i : Nat} {d : DS} (h : DIs w b d) (hi : i < d.ns.length) (hA : d.A = some ⟨g, 0, none⟩) {H : Array Value} {k k' : Nat} (hd : d.ns[i] = some (H, k)) (hk : k' < 4611686018427387904) :
    DIs (w.setCell ⟨g, i * 34 + 33, none⟩ (.int .i64 k')) b { d with ns := d.ns.set i (some (H, k')) } := by
  have hH := ((h.ok _ (List.getElem_mem hi)).is).1
  rw [hd] at hH
  refine h.put hi hA (fun h' k'' e => by cases e; exact ⟨hH, hk⟩) ((Chg.refl _ _).setCell (by simp) _) fun cur hh hs ht => ⟨_, blk_set hh _ _, ?_⟩
  have hc : ∀ j, j < 34 → (dnC d.ns[i])[j]? = cur.toList[i * 34 + j]? := fun j hj => by
    rw [← dnF_at h.ok i hi j hj, ← ht, List.getElem?_take, if_pos]
    have : (i + 1) * 34 ≤ d.ns.length * 34 := Nat.mul_le_mul_right _ hi
    omega
  have hHs : H.size = 32 := hH.1
  rw [hd] at hc
  apply List.ext_getElem?
  intro j
  rw [Array.toList_setIfInBounds, List.getElem?_set]
  have hcl : cur.toList.length = cur.size := Array.length_toList
  have hxs2 : (dnC (some (H, k'))).size = 34 := rnOf_size hHs _ _
  have hxs : (dnC (some (H, k'))).toList.length = 34 := by rw [Array.length_toList]; exact hxs2
  have hE : ∀ j, j < 33 → (dnC (some (H, k')))[j]? = (dnC (some (H, k)))[j]? := by
    intro j hj
    unfold dnC rnOf dnH dnK
    simp only [Option.isSome_some]
    rw [Array.getElem?_push_lt (by simp [hHs]; omega), Array.getElem?_push_lt (by simp [hHs]; omega)]
  by_cases j1 : j < i * 34
  · rw [if_neg (by omega), List.append_assoc, List.getElem?_append_left (by simp; omega), List.getElem?_take, if_pos j1]
  · by_cases j2 : j < i * 34 + 34
    · rw [List.getElem?_append_left (by simp; omega), List.getElem?_append_right (by simp; omega)]
      have hlt : (cur.toList.take (i * 34)).length = i * 34 := by simp; omega
      rw [hlt]
      by_cases j3 : j = i * 34 + 33
      · subst j3
        rw [if_pos rfl, if_pos (by omega), show i * 34 + 33 - i * 34 = 33 from by omega, Array.getElem?_toList]
        unfold dnC rnOf dnH dnK
        rw [Array.getElem?_push]
        simp [hHs]
      · have e1 := hE (j - i * 34) (by omega)
        rw [hc _ (by omega)] at e1
        rw [if_neg (by omega), Array.getElem?_toList (xs := dnC (some (H, k'))), e1]
        congr 1
        omega
    · rw [if_neg (by omega), List.getElem?_append_right (by simp; omega), List.getElem?_drop]
      congr 1
      simp
      omega

/-! The walk's rules on its nodes. -/
@[go_sem ↓] theorem hold_st_rnode (x v : Value) : Instr.storeAt 153 x v = stX 153 x v := rfl
@[go_sem ↓] theorem hold_bd_rnode (ps : Array (Nat × Value)) : Instr.build 153 ps = bdX 153 ps := rfl
@[go_sem ↓] theorem hold_bs_rnode (n : Nat) (ps : Array (Nat × Value)) : Instr.buildSlice 154 n ps = bsX 154 n ps := rfl
theorem u_rnode : Tryz.prog.underlying 153 = some (.struct (Tryz.prog.fieldsOf 153)) := by kernel_rfl
@[go_sem] theorem st_rnode (b o : Nat) (cs : Array Value) (w : World) : (stX 153 (.pointer (some ⟨b, o, none⟩)) (.agg cs)).run Tryz.prog w = stR Tryz.prog 153 b o cs w (may w b o 34 && decide (cs.size = 34) && one1 cs) := run_stR _ 34 (by kernel_rfl) b o cs w
theorem zv_rnode (w : World) : (zeroValue 153).run Tryz.prog w = .ok (.agg (rnOf zeroHash false 0)) w := by kernel_rfl
@[go_sem] theorem bd_rnode0 (w : World) : (bdX 153 #[]).run Tryz.prog w = .ok (.agg (rnOf zeroHash false 0)) w := by kernel_rfl
theorem run_places_rnode (w : World) : ((Tryz.prog.fieldsOf 153).mapM fun (f : Field) => do pure (f.offset, ← sizeOf f.type)).run Tryz.prog w = .ok #[(0, 32), (32, 1), (33, 1)] w := by kernel_rfl
@[go_sem] theorem bd_rnode (h : Array Value) (b : Bool) (hh : h.size = 32) (w : World) : (bdX 153 #[(0, .agg h), (1, .bool b)]).run Tryz.prog w = .ok (.agg (rnOf h b 0)) w := by
  unfold bdX Instr.build
  simp only [Sem.run_bind, zv_rnode, run_underlying u_rnode, Result.andThen_ok, run_places_rnode]
  have hz : (rnOf zeroHash false 0).size = 34 := rnOf_size zeroHash_size false 0
  have hl : h.toList.length = 32 := by simpa using hh
  simp only [Value.cells]
  rw [fill_part _ _ 0 0 32 (.agg h) _ rfl (by simpa [Value.cells] using hh) (by omega)]
  rw [fill_part _ _ 1 32 1 (.bool b) _ rfl rfl (by simp [Value.cells, hh, hz, zeroHash_size])]
  simp only [Instr.fill, Sem.run_pure, Result.ok.injEq, and_true, Value.agg.injEq]
  apply Array.toList_inj.1
  simp [rnOf, Value.cells, hh, hz, List.take_append, hl, zeroHash_size, List.drop_append]
theorem u_rnodes : Tryz.prog.underlying 154 = some (.slice 153) := by kernel_rfl
theorem i_rnode : (Tryz.prog.info? 153).map (fun i => (i.zero, i.size, i.bytes)) = some (some (.agg (rnOf zeroHash false 0)), 34, 48) := by kernel_rfl
@[go_sem] theorem bs_rnode (cs : Array Value) (hs : cs.size = 34) (w : World) : (bsX 154 1 #[(0, .agg cs)]).run Tryz.prog w = .ok (.slice (some ⟨w.heap.size, 0, none⟩) 1 1) (w.alloc (.cells cs 153)) := by
  obtain ⟨i, hi, hz, hsz, _⟩ := infoOf i_rnode
  unfold bsX Instr.buildSlice
  have h34 : (rnOf zeroHash false 0).size = 34 := rnOf_size zeroHash_size false 0
  have hso : ∀ w, (sizeOf 153).run Tryz.prog w = .ok 34 w := by intro w; simp [sizeOf, typeInfo, hi, hsz]
  simp only [Sem.run_bind, run_underlying u_rnodes, Result.andThen_ok, hso, zv_rnode, Sem.run_ite, Nat.one_mul, Sem.run_pure]
  simp only [show ¬ (34 > 2 ^ 24) from by decide, show ¬ (34 = 0) from by decide, if_false, Result.andThen_ok, Value.cells]
  rw [fill_part _ _ 0 0 34 (.agg cs) _ rfl (by simpa [Value.cells] using hs) (by simp)]
  have e : ((((Array.range 34).map fun x => (rnOf zeroHash false 0)[x % (rnOf zeroHash false 0).size]!).toList.take 0 ++ (Value.agg cs).cells.toList ++ ((Array.range 34).map fun x => (rnOf zeroHash false 0)[x % (rnOf zeroHash false 0).size]!).toList.drop (0 + 34)).toArray) = cs := by
    apply Array.toList_inj.1
    simp [Value.cells]
  rw [e]
  rfl
end Go.Proofs.YtpklkefnmoaaaaaGreatDoor

/- The store: find. -/
namespace Go.Proofs.YtpklkefnmoaaaaaGreatDoor
open Go.RowKit
set_option linter.unusedVariables false
set_option linter.unusedSimpArgs false

theorem mget_map {α : Type} (l : List α) (f : α → Nat) (g : α → Value) (a : Nat) : mget (l.map fun x => (f x, g x)) a = (l.find? fun x => decide (f x = a)).map g := by
  induction l with
  | nil => rfl
  | cons x l ih =>
    simp only [mget, List.map_cons, List.find?_cons] at ih ⊢
    by_cases h : f x = a
    · simp [h]
    · simp only [h, decide_false]; exact ih

def SS.fptr (s : SS) (p : Nat) : Option Addr := (s.look p).bind fun x => if ((x.ns[qa s.log p]?).join).isSome then some ⟨x.nb, qa s.log p * 33, none⟩ else none
def ckPtr (o : Option Ck) : Option Addr := o.map fun x => ⟨x.c, 0, none⟩

theorem StIs.cell0 {w : World} {b : Nat} {s : SS} (h : StIs w b s) : w.cell? ⟨b, 0, none⟩ = some (.int .i64 s.log) := blk_cell h.1 0 rfl
theorem StIs.cell1 {w : World} {b : Nat} {s : SS} (h : StIs w b s) : w.cell? ⟨b, 1, none⟩ = some (.int .u64 s.n) := blk_cell h.1 1 rfl
theorem StIs.cell2 {w : World} {b : Nat} {s : SS} (h : StIs w b s) : w.cell? ⟨b, 2, none⟩ = some (.int .u64 s.alive) := blk_cell h.1 2 rfl
theorem StIs.cell3 {w : World} {b : Nat} {s : SS} (h : StIs w b s) : w.cell? ⟨b, 3, none⟩ = some (.map (some s.cm)) := blk_cell h.1 3 rfl
theorem StIs.cell4 {w : World} {b : Nat} {s : SS} (h : StIs w b s) : w.cell? ⟨b, 4, none⟩ = some (.map (some s.pm)) := blk_cell h.1 4 rfl
theorem StIs.drewN {w : World} {b : Nat} {s : SS} (h : StIs w b s) (n : Nat) : StIs (w.drewN n) b s := h.chg0 ((Chg.refl _ _).drewN n)
theorem StIs.blt {w : World} {b : Nat} {s : SS} (h : StIs w b s) : b < w.heap.size := h.lt b (by simp [SS.foot])

theorem StIs.lookc {w : World} {b : Nat} {s : SS} (h : StIs w b s) (p : Nat) : (Instr.lookup 148 (.map (some s.cm)) (.agg #[.int .u64 (qk s.log p)]) false).run Tryz.prog w = .ok (.pointer (ckPtr (s.look p))) w := by
  have := h.2.1.look encK_law u_mapc z_pchunk (qk s.log p) false
  rw [mget_map] at this
  unfold encK at this
  rw [this]
  unfold ckPtr SS.look
  cases s.cks.find? fun x => decide (x.k = qk s.log p) <;> rfl


theorem cellsOf_at (ns : List (Option (Array Value))) (hh : ∀ h, some h ∈ ns → IsHash h) : ∀ (i j : Nat), j < 33 → i < ns.length → (cellsOf ns)[i * 33 + j]? = (nodeCells (ns.getD i none))[j]? := by
  have hl : ∀ o ∈ ns, (nodeCells o).length = 33 := by
    intro o ho
    cases o with
    | none => simp [nodeCells, zeroHash]
    | some h => simp [nodeCells, (hh h ho).1]
  clear hh
  induction ns with
  | nil => intro i j _ hi; simp at hi
  | cons o ns ih =>
    intro i j hj hi
    have ho := hl o (by simp)
    have e : cellsOf (o :: ns) = nodeCells o ++ cellsOf ns := by simp [cellsOf]
    rw [e]
    cases i with
    | zero => rw [List.getElem?_append_left (by omega)]; simp
    | succ i =>
      rw [List.getElem?_append_right (by omega), ho]
      rw [show (i + 1) * 33 + j - 33 = i * 33 + j from by omega, ih (fun o ho => hl o (by simp [ho])) i j hj (by simpa using hi)]
      simp

theorem CkIs.cell {w : World} {x : Ck} (h : CkIs w x) {i j : Nat} (hi : i < x.ns.length) (hj : j < 33) {v : Value} (hv : (nodeCells (x.ns.getD i none))[j]? = some v) : w.cell? ⟨x.nb, i * 33 + j, none⟩ = some v := by
  have := h.2.1.cells (g := x.nb) rfl (i * 33 + j) v (by rw [cellsOf_at x.ns h.2.2.1 i j hj hi]; exact hv)
  rw [show (⟨x.nb, 0, none⟩ : Addr).add (i * 33 + j) = ⟨x.nb, i * 33 + j, none⟩ from by unfold Addr.add; split <;> simp_all] at this
  exact this

theorem CkIs.flag {w : World} {x : Ck} (h : CkIs w x) {i : Nat} (hi : i < x.ns.length) : w.cell? ⟨x.nb, i * 33 + 32, none⟩ = some (.bool (x.ns.getD i none).isSome) := by
  refine h.cell hi (by omega) ?_
  cases hx : x.ns.getD i none with
  | none => simp [nodeCells, zeroHash]
  | some q =>
    have : some q ∈ x.ns := by
      rw [List.getD_eq_getElem?_getD, List.getElem?_eq_getElem hi, Option.getD_some] at hx
      rw [← hx]; exact List.getElem_mem hi
    simp [nodeCells, (h.2.2.1 q this).1]

theorem look_mem {s : SS} {p : Nat} {x : Ck} (h : s.look p = some x) : x ∈ s.cks ∧ x.k = qk s.log p := by
  unfold SS.look at h
  exact ⟨List.mem_of_find?_eq_some h, by simpa using List.find?_some h⟩

theorem find_calls (b p : Nat) (s : SS) (w : World) (h : StIs w b s) (hp : p < 18446744073709551616) :
    Calls Tryz.prog 171 #[.pointer (some ⟨b, 0, none⟩), .int .u64 p] w (Res w [] (.pointer (s.fptr p))) := by
  have hb := h.blt
  have hs := h.2.2.2.2.2.log
  have hc0 := h.cell0
  have hf : Hid (s.fptr p = (s.look p).bind fun x => if ((x.ns[qa s.log p]?).join).isSome then some ⟨x.nb, qa s.log p * 33, none⟩ else none) := rfl
  generalize hfp : s.fptr p = fp at *
  clear hfp
  go_enter Tryz.func171, Tryz.ntmps171
  go_wp2_with (go_at_call 173; refine (spot_calls _ _ _ _ hs hp hb hc0).mono ?_; rintro e w1 ⟨rfl, hc1⟩)
  have h1 := h.chg0 hc1
  generalize hW2 : World.alloc w1 _ = w2
  have hc2 : Chg [] w w2 := by rw [← hW2]; exact hc1.alloc _
  have hk2 : w2.cell? ⟨w1.heap.size, 0, none⟩ = some (.int .u64 (qk s.log p)) := by rw [← hW2]; simp
  have h2 := h.chg0 hc2
  clear hW2 hc0 hc1 h1
  have hl2 : ∀ n, (Instr.lookup 148 (.map (some s.cm)) (.agg #[.int .u64 (qk s.log p)]) false).run Tryz.prog (w2.drewN n) = .ok (.pointer (ckPtr (s.look p))) (w2.drewN n) := fun n => (h2.drewN n).lookc p
  have hc3 := h2.cell3
  cases hlk : s.look p with
  | none =>
    rw [hlk] at hf hl2
    have hlk := Lib.hid hlk
    simp only [ckPtr, Option.map_none] at hl2
    go_quiet (fail)
    go_wp2
    go_ret
    exact ⟨by rw [hf.out]; rfl, hc2.drewN _⟩
  | some x =>
    rw [hlk] at hf hl2
    obtain ⟨hx, hxk⟩ := look_mem hlk
    have hck := h2.2.2.2.1 x hx
    clear hxk hlk
    simp only [ckPtr, Option.map_some] at hl2
    have hx0 : w2.cell? ⟨x.c, 0, none⟩ = some (.slice (some ⟨x.nb, 0, none⟩) x.ns.length x.cap) := blk_cell hck.1 0 rfl
    by_cases hlt : qa s.log p < x.ns.length
    · have hfl := hck.flag hlt
      have hj : Hid ((x.ns[qa s.log p]?).join = x.ns.getD (qa s.log p) none) := by simp [Hid, List.getD_eq_getElem?_getD, List.getElem?_eq_getElem hlt]
      cases hg : x.ns.getD (qa s.log p) none with
      | none =>
        rw [hg] at hfl hj
        simp only [Option.isSome_none] at hfl
        clear hg
        go_quiet (fail)
        go_wp2
        go_ret
        exact ⟨by rw [hf.out]; simp only [Option.bind_some, hj.out]; rfl, hc2.drewN _⟩
      | some q =>
        rw [hg] at hfl hj
        simp only [Option.isSome_some] at hfl
        clear hg
        go_quiet (fail)
        go_wp2
        go_ret
        exact ⟨by rw [hf.out]; simp only [Option.bind_some, hj.out]; rfl, hc2.drewN _⟩
    · have hj : Hid ((x.ns[qa s.log p]?).join = none) := by simp [Hid, List.getElem?_eq_none (show x.ns.length ≤ qa s.log p by omega)]
      go_quiet (fail)
      go_wp2
      go_ret
      exact ⟨by rw [hf.out]; simp only [Option.bind_some, hj.out]; rfl, hc2.drewN _⟩
end Go.Proofs.YtpklkefnmoaaaaaGreatDoor

/- The store: Get, Live, Len, Alive, Chunks, Pins. -/
namespace Go.Proofs.YtpklkefnmoaaaaaGreatDoor
open Go.RowKit
set_option linter.unusedVariables false
set_option linter.unusedSimpArgs false

def SS.getH (s : SS) (p : Nat) : Array Value := if p < s.n then (s.node p).getD zeroHash else zeroHash
def SS.getE (s : SS) (p : Nat) : Int := if p < s.n then (if (s.node p).isSome then 0 else 50) else 31

theorem node_ptr {w : World} {b p : Nat} {s : SS} {h : Array Value} (hst : StIs w b s) (hn : s.node p = some h) : ∃ g o, s.fptr p = some ⟨g, o, none⟩ ∧ rng? w g o 32 = some h ∧ IsHash h := by
  unfold SS.node at hn
  rw [Option.bind_eq_some_iff] at hn
  obtain ⟨x, hx, hxn⟩ := hn
  obtain ⟨hxm, _⟩ := look_mem hx
  have hck := hst.2.2.2.1 x hxm
  have hlt : qa s.log p < x.ns.length := by
    by_cases hq : qa s.log p < x.ns.length
    · exact hq
    · rw [List.getElem?_eq_none (by omega)] at hxn; cases hxn
  have hg : x.ns.getD (qa s.log p) none = some h := by
    rw [List.getElem?_eq_getElem hlt] at hxn
    simpa [List.getD_eq_getElem?_getD, List.getElem?_eq_getElem hlt] using hxn
  have hh : IsHash h := by
    refine hck.2.2.1 h ?_
    rw [List.getElem?_eq_getElem hlt] at hxn
    have : x.ns[qa s.log p] = some h := by simpa using hxn
    rw [← this]; exact List.getElem_mem hlt
  refine ⟨x.nb, qa s.log p * 33, ?_, ?_, hh⟩
  · unfold SS.fptr
    rw [hx]
    simp [hxn]
  · refine rng?_mk hh.1 ?_
    intro j hj
    refine hck.cell hlt (by have := hh.1; omega) ?_
    rw [hg]
    unfold nodeCells
    simp only
    rw [List.getElem?_append_left (by simpa using hj)]
    simp [hj]

theorem node_nil {p : Nat} {s : SS} (hn : s.node p = none) : s.fptr p = none := by
  unfold SS.node at hn
  unfold SS.fptr
  cases hx : s.look p with
  | none => rfl
  | some x =>
    rw [hx] at hn
    simp only [Option.bind_some] at hn ⊢
    rw [hn]
    rfl

theorem get_calls (b p : Nat) (s : SS) (w : World) (hst : StIs w b s) (hp : p < 18446744073709551616) :
    Calls Tryz.prog 104 #[.pointer (some ⟨b, 0, none⟩), .int .u64 p] w (Res w [] (.tuple #[.agg (s.getH p), .int .i64 (s.getE p)])) := by
  have hb := hst.blt
  have hc1 := hst.cell1
  by_cases hlt : p < s.n
  · cases hn : s.node p with
    | none =>
      have hf := Lib.hid (node_nil hn)
      have e1 : Hid (s.getH p = zeroHash) := by unfold Hid SS.getH; rw [if_pos hlt, hn]; rfl
      have e2 : Hid (s.getE p = 50) := by unfold Hid SS.getE; rw [if_pos hlt, hn]; rfl
      clear hn
      go_enter Tryz.func104, Tryz.ntmps104
      go_wp2_with (go_at_call 171; refine (find_calls b p s _ (hst.chg0 ((Chg.refl _ _).alloc _)) hp).mono ?_; rintro e w1 ⟨rfl, hc⟩; rw [hf.out]; have hm1 := may_chg hc (may_alloc_at w w.heap.size 32 zeroHash 36 rfl zeroHash_size) (by omega) (by simp))
      refine bodyPost_ret (res_Hash2 rfl _ _ rfl (rng?_setRng_same _ _ _ _ _ hm1 zeroHash_size)) rfl ⟨by rw [e1.out, e2.out]; rfl, ?_⟩
      exact (((Chg.refl _ _).alloc _).nil_trans hc).setRng (by simp) _ _
    | some h =>
      obtain ⟨g, o, hfp, hrg, hh⟩ := node_ptr hst hn
      have hf := Lib.hid hfp
      have e1 : Hid (s.getH p = h) := by unfold Hid SS.getH; rw [if_pos hlt, hn]; rfl
      have e2 : Hid (s.getE p = 0) := by unfold Hid SS.getE; rw [if_pos hlt, hn]; rfl
      have hsz := hh.1
      have hone := hh.one
      have hrw : ∀ w1, Chg [] w w1 → rng? w1 g o 32 = some h := fun w1 hc => rng?_chg hc hrg (by omega) (by simp)
      clear hn hfp hh
      go_enter Tryz.func104, Tryz.ntmps104
      go_wp2_with (go_at_call 171; refine (find_calls b p s _ (hst.chg0 ((Chg.refl _ _).alloc _)) hp).mono ?_; rintro e w1 ⟨rfl, hc⟩; rw [hf.out]; have hm1 := may_chg hc (may_alloc_at w w.heap.size 32 zeroHash 36 rfl zeroHash_size) (by omega) (by simp); have hr1 := hrw w1 (((Chg.refl _ _).alloc _).nil_trans hc); clear hrw)
      refine bodyPost_ret (res_Hash2 rfl _ _ rfl (rng?_setRng_same _ _ _ _ _ hm1 hsz)) rfl ⟨by rw [e1.out, e2.out]; rfl, ?_⟩
      exact (((Chg.refl _ _).alloc _).nil_trans hc).setRng (by simp) _ _
  · have e1 : Hid (s.getH p = zeroHash) := by unfold Hid SS.getH; rw [if_neg hlt]
    have e2 : Hid (s.getE p = 31) := by unfold Hid SS.getE; rw [if_neg hlt]
    go_enter Tryz.func104, Tryz.ntmps104
    go_wp2
    refine bodyPost_ret (res_Hash2 rfl _ _ rfl (rng?_alloc_at _ _ _ _ _ rfl zeroHash_size)) rfl ⟨by rw [e1.out, e2.out]; rfl, ?_⟩
    exact (Chg.refl _ _).alloc _
end Go.Proofs.YtpklkefnmoaaaaaGreatDoor

/- The document's store: small readers, New. -/
namespace Go.Proofs.YtpklkefnmoaaaaaGreatDoor
open Go.RowKit
set_option linter.unusedVariables false
set_option linter.unusedSimpArgs false

def DS.nd (d : DS) (p : Nat) : DN := (d.ns[p]?).join
def DS.getE (d : DS) (p : Nat) : Int := if p < d.ns.length then (if (d.nd p).isSome then 0 else 50) else 31
theorem DS.nd_lt {d : DS} {p : Nat} (h : p < d.ns.length) : d.nd p = d.ns[p] := by unfold DS.nd; rw [List.getElem?_eq_getElem h]; rfl
theorem DS.nd_ge {d : DS} {p : Nat} (h : ¬ p < d.ns.length) : d.nd p = none := by unfold DS.nd; rw [List.getElem?_eq_none (by omega)]; rfl
theorem rthere_calls (b p : Nat) (d : DS) (w : World) (h : DIs w b d) : Calls Tryz.prog 108 #[.pointer (some ⟨b, 0, none⟩), .int .u64 p] w (Res w [] (.bool (decide (p < d.ns.length)))) := by
  have hb := h.blt
  have hc := h.c1
  have hl := h.len
  have e : Hid (decide (p < d.ns.length) = decide ((p : Int) < wrap64 (d.ns.length : Int))) := by
    unfold Hid wrap64
    congr 1
    apply propext
    omega
  generalize d.ns.length = N at *
  go_enter Tryz.func108, Tryz.ntmps108
  go_wp2
  go_ret
  refine ⟨?_, Chg.refl _ _⟩
  rw [e.out]
  rfl
theorem rlen_calls (b : Nat) (d : DS) (w : World) (h : DIs w b d) : Calls Tryz.prog 100 #[.pointer (some ⟨b, 0, none⟩)] w (Res w [] (.int .u64 d.ns.length)) := by
  have hb := h.blt
  have hc := h.c1
  have hl := h.len
  have e : Hid (wrap64 (d.ns.length : Int) = (d.ns.length : Int)) := by unfold Hid wrap64; omega
  generalize d.ns.length = N at *
  go_enter Tryz.func100, Tryz.ntmps100
  go_wp2
  go_ret
  exact ⟨by simp, Chg.refl _ _⟩
theorem rget_calls (b p : Nat) (d : DS) (w : World) (h : DIs w b d) : Calls Tryz.prog 112 #[.pointer (some ⟨b, 0, none⟩), .int .u64 p] w (Res w [] (.tuple #[.agg (dnH (d.nd p)), .int .i64 (d.getE p)])) := by
  have hb := h.blt
  have hth := rthere_calls b p d (w.alloc (.cells zeroHash 36)) (h.chg0 ((Chg.refl _ _).alloc _))
  have hc : ∀ w', Chg [] w w' → w'.cell? ⟨b, 1, none⟩ = some (.slice d.A d.ns.length d.cap) := fun w' hc => (h.chg0 hc).c1
  by_cases hp : p < d.ns.length
  · obtain ⟨g, hA, hne, hat⟩ := h.at hp
    have e1 := d.nd_lt hp
    have hx := (h.ok _ (List.getElem_mem hp)).is.1
    rw [← e1] at hat hx
    have hsz := hx.1
    have hone := hx.one
    have hatW : ∀ w', Chg [] w w' → rng? w' g (p * 34) 32 = some (dnH (d.nd p)) ∧ w'.cell? ⟨g, p * 34 + 32, none⟩ = some (.bool (d.nd p).isSome) := fun w' hc => ⟨rng?_chg hc hat.hash (by omega) (by simp), by rw [hc.cell (p := ⟨g, p * 34 + 32, none⟩) hat.lt (by simp)]; exact hat.live⟩
    have e2 : d.getE p = if (d.nd p).isSome then 0 else 50 := by unfold DS.getE; rw [if_pos hp]
    have dn : decide (p < d.ns.length) = true := by simpa using hp
    rw [hA] at hc
    rw [dn] at hth
    have hgl := hat.lt
    clear h hat e1 hx hA dn
    cases hn : d.nd p with
    | none =>
      rw [hn] at e2 hatW hsz hone
      have e3 : Hid (d.getE p = 50) := by rw [e2]; rfl
      clear e2
      go_enter Tryz.func112, Tryz.ntmps112
      go_wp2_with (go_at_call 108; refine hth.mono ?_; rintro e w1 ⟨rfl, hc1⟩; have hm1 := may_chg hc1 (may_alloc_at w w.heap.size 32 zeroHash 36 rfl zeroHash_size) (by omega) (by simp); have hr1 := hc w1 (((Chg.refl _ _).alloc _).nil_trans hc1); obtain ⟨hr2, hr3⟩ := hatW w1 (((Chg.refl _ _).alloc _).nil_trans hc1); clear hc hatW)
      refine bodyPost_ret (res_Hash2 rfl _ _ rfl (rng?_setRng_same _ _ _ _ _ hm1 zeroHash_size)) rfl ⟨by rw [e3.out]; rfl, ?_⟩
      exact (((Chg.refl _ _).alloc _).nil_trans hc1).setRng (by simp) _ _
    | some y =>
      rw [hn] at e2 hatW hsz hone
      have e3 : Hid (d.getE p = 0) := by rw [e2]; rfl
      clear e2
      go_enter Tryz.func112, Tryz.ntmps112
      go_wp2_with (go_at_call 108; refine hth.mono ?_; rintro e w1 ⟨rfl, hc1⟩; have hm1 := may_chg hc1 (may_alloc_at w w.heap.size 32 zeroHash 36 rfl zeroHash_size) (by omega) (by simp); have hr1 := hc w1 (((Chg.refl _ _).alloc _).nil_trans hc1); obtain ⟨hr2, hr3⟩ := hatW w1 (((Chg.refl _ _).alloc _).nil_trans hc1); clear hc hatW)
      refine bodyPost_ret (res_Hash2 rfl _ _ rfl (rng?_setRng_same _ _ _ _ _ hm1 hsz)) rfl ⟨by rw [e3.out]; rfl, ?_⟩
      exact (((Chg.refl _ _).alloc _).nil_trans hc1).setRng (by simp) _ _
  · have e1 := d.nd_ge hp
    have e2 : Hid (d.getE p = 31) := by unfold Hid DS.getE; rw [if_neg hp]
    have dn : decide (p < d.ns.length) = false := by simpa using hp
    rw [dn] at hth
    rw [e1]
    clear h hc dn e1
    go_enter Tryz.func112, Tryz.ntmps112
    go_wp2_with (go_at_call 108; refine hth.mono ?_; rintro e w1 ⟨rfl, hc1⟩; have hm1 := may_chg hc1 (may_alloc_at w w.heap.size 32 zeroHash 36 rfl zeroHash_size) (by omega) (by simp))
    refine bodyPost_ret (res_Hash2 rfl _ _ rfl (rng?_setRng_same _ _ _ _ _ hm1 zeroHash_size)) rfl ⟨by rw [e2.out]; rfl, ?_⟩
    exact (((Chg.refl _ _).alloc _).nil_trans hc1).setRng (by simp) _ _
theorem rnew_bad (l : Int) (w : World) (h : l < 0 ∨ 16 < l) : Calls Tryz.prog 77 #[.int .i64 l] w (Res w [] (.tuple #[.pointer none, .int .i64 1])) := by
  by_cases h0 : l < 0
  · go_enter Tryz.func77, Tryz.ntmps77
    go_wp2
    go_ret2
    exact ⟨rfl, Chg.refl _ _⟩
  · have h1 : 16 < l := by omega
    go_enter Tryz.func77, Tryz.ntmps77
    go_wp2
    go_ret2
    exact ⟨rfl, Chg.refl _ _⟩
def RNewP (w : World) (l : Nat) (e : Ending) (w' : World) : Prop :=
  ∃ b d, e = .returned (.tuple #[.pointer (some ⟨b, 0, none⟩), .int .i64 0]) ∧ DIs w' b d ∧ Chg [] w w' ∧ (∀ k ∈ d.foot b, w.heap.size ≤ k) ∧ d.log = l ∧ d.ns = []
theorem rnew_ok (l : Nat) (w : World) (h : l ≤ 16) : Calls Tryz.prog 77 #[.int .i64 l] w (RNewP w l) := by
  go_enter Tryz.func77, Tryz.ntmps77
  go_wp2
  go_ret2
  refine ⟨_, ⟨l, none, 0, []⟩, rfl, ⟨blk_new w _, ⟨rfl, .inl ⟨rfl, rfl⟩⟩, by simp [DS.sl, ob, Value.ownBlock], by simp, h, by simp⟩, (Chg.refl _ _).alloc _, ?_, rfl, rfl⟩
  intro k hk
  simp [DS.foot, DS.sl, ob, Value.ownBlock] at hk
  omega
end Go.Proofs.YtpklkefnmoaaaaaGreatDoor

/- The document's store: Pin, Unpin, Drop, Back. -/
namespace Go.Proofs.YtpklkefnmoaaaaaGreatDoor
open Go.RowKit
set_option linter.unusedVariables false
set_option linter.unusedSimpArgs false

/-- What a call leaves that changes the nodes. -/
def DP (w : World) (b : Nat) (d : DS) (ns : List DN) (v : Value) (e : Ending) (w' : World) : Prop := e = .returned v ∧ ∃ d', DIs w' b d' ∧ d'.ns = ns ∧ d'.log = d.log ∧ Mv (d.foot b) (d'.foot b) w w'
theorem DIs.keep {w w' : World} {b : Nat} {d : DS} {v : Value} (h : DIs w b d) (hc : Chg [] w w') : DP w b d d.ns v (.returned v) w' := ⟨rfl, d, h.chg0 hc, rfl, rfl, hc.of_nil, fun k hk => .inl hk⟩
theorem DIs.keep2 {w w' : World} {b : Nat} {d : DS} {v : Value} {ns : List DN} (h : DIs w b d) (hc : Chg [] w w') (e : ns = d.ns) : DP w b d ns v (.returned v) w' := by
  subst e; exact h.keep hc
theorem DIs.done {w w1 w' : World} {b g : Nat} {d : DS} {ns : List DN} {v : Value} (h : DIs w b d) (hA : d.A = some ⟨g, 0, none⟩) (h1 : Chg [] w w1) (h2 : Chg [g] w1 w') (h3 : DIs w' b { d with ns := ns }) : DP w b d ns v (.returned v) w' := by
  have hg : g ∈ d.foot b := by simp [DS.foot, DS.sl, hA, ob, Value.ownBlock]
  refine ⟨rfl, _, h3, rfl, rfl, (h1.of_nil).trans h2 (fun x hx => .inl (by simp at hx; subst hx; exact hg)), fun k hk => .inl ?_⟩
  simpa [DS.foot, DS.sl, ob, hA, Value.ownBlock] using hk
theorem DAt.chg0 {w w' : World} {g i : Nat} {x : DN} (h : DAt w g i x) (hc : Chg [] w w') : DAt w' g i x :=
  ⟨rng?_chg hc h.hash (by omega) (by simp), by rw [hc.cell (p := ⟨g, i * 34 + 32, none⟩) h.lt (by simp)]; exact h.live, by rw [hc.cell (p := ⟨g, i * 34 + 33, none⟩) h.lt (by simp)]; exact h.pins, may_chg hc h.may (by omega) (by simp), by rw [hc.frozen (p := ⟨g, i * 34 + 33, none⟩) h.lt (by simp)]; exact h.fz, Nat.lt_of_lt_of_le h.lt hc.size⟩
theorem rnIs {x : DN} (h : dnOk x) : IsHash (dnH x) := h.is.1
theorem DIs.ndOk {w : World} {b : Nat} {d : DS} (h : DIs w b d) (p : Nat) : dnOk (d.nd p) := by
  by_cases hp : p < d.ns.length
  · rw [d.nd_lt hp]; exact h.ok _ (List.getElem_mem hp)
  · rw [d.nd_ge hp]; intro _ _ e; cases e
theorem DIs.getOk {w : World} {b : Nat} {d : DS} (h : DIs w b d) (p : Nat) : IsHash (dnH (d.nd p)) := (h.ndOk p).is.1
def dPin (ns : List DN) (p : Nat) : List DN := match (ns[p]?).join with | some (h, k) => ns.set p (some (h, k + 1)) | none => ns
def dUnE (ns : List DN) (p : Nat) : Int := if p < ns.length then (if dnK ((ns[p]?).join) = 0 then 52 else 0) else 31
def dUn (ns : List DN) (p : Nat) : List DN := match (ns[p]?).join with | some (h, k) => if k = 0 then ns else ns.set p (some (h, k - 1)) | none => ns
def dDropE (ns : List DN) (p : Nat) : Int := if p < ns.length then (if 0 < dnK ((ns[p]?).join) then 51 else 0) else 31
def dDrop (ns : List DN) (p : Nat) : List DN := if 0 < dnK ((ns[p]?).join) then ns else ns.set p none
theorem rdrop_calls (b p : Nat) (d : DS) (w : World) (h : DIs w b d) :
    Calls Tryz.prog 24 #[.pointer (some ⟨b, 0, none⟩), .int .u64 p] w (DP w b d (dDrop d.ns p) (.int .i64 (dDropE d.ns p))) := by
  have hb := h.blt
  by_cases hp : p < d.ns.length
  · obtain ⟨g, hA, hne, hat⟩ := h.at hp
    have hth := rthere_calls b p d w h
    have hW : ∀ w1, Chg [] w w1 → w1.cell? ⟨b, 1, none⟩ = some (.slice (some ⟨g, 0, none⟩) d.ns.length d.cap) ∧ DAt w1 g p d.ns[p] ∧ DIs w1 b d := fun w1 hc => by
      have h' := h.chg0 hc
      have := h'.c1
      rw [hA] at this
      exact ⟨this, hat.chg0 hc, h'⟩
    have hgl := hat.lt
    have HD := Lib.hid hA
    have HH := Lib.hid h
    have dn : decide (p < d.ns.length) = true := by simpa using hp
    rw [dn] at hth
    have hnd : (d.ns[p]?).join = d.ns[p] := d.nd_lt hp
    by_cases hk0 : 0 < dnK d.ns[p]
    · have e1 : Hid (dDropE d.ns p = 51) := by unfold Hid dDropE; rw [if_pos hp, hnd, if_pos hk0]
      have e2 : Hid (dDrop d.ns p = d.ns) := by unfold Hid dDrop; rw [hnd, if_pos hk0]
      rw [e1.out, e2.out]
      have hW2 : ∀ w1, Chg [] w w1 → w1.cell? ⟨b, 1, none⟩ = some (.slice (some ⟨g, 0, none⟩) d.ns.length d.cap) ∧ w1.cell? ⟨g, p * 34 + 33, none⟩ = some (.int .i64 (dnK d.ns[p])) := fun w1 hc => ⟨(hW w1 hc).1, (hW w1 hc).2.1.pins⟩
      generalize dnK d.ns[p] = k at *
      clear h hat hA hW hnd dn e1 e2
      go_enter Tryz.func24, Tryz.ntmps24
      go_wp2_with (go_at_call 108; refine hth.mono ?_; rintro e w1 ⟨rfl, hc⟩; obtain ⟨q1, q2⟩ := hW2 _ hc; clear hW2)
      go_ret
      exact HH.out.keep hc
    · have e1 : Hid (dDropE d.ns p = 0) := by unfold Hid dDropE; rw [if_pos hp, hnd, if_neg hk0]
      have e2 : Hid (dDrop d.ns p = d.ns.set p none) := by unfold Hid dDrop; rw [hnd, if_neg hk0]
      rw [e1.out]
      have hk1 : dnK d.ns[p] = 0 := by omega
      have hW2 : ∀ w1, Chg [] w w1 → w1.cell? ⟨b, 1, none⟩ = some (.slice (some ⟨g, 0, none⟩) d.ns.length d.cap) ∧ w1.cell? ⟨g, p * 34 + 33, none⟩ = some (.int .i64 0) ∧ may w1 g (p * 34) 34 = true ∧ g < w1.heap.size ∧ DIs (setRng w1 g (p * 34) (rnOf zeroHash false 0)) b { d with ns := d.ns.set p none } := fun w1 hc => by
        obtain ⟨a1, a2, a3⟩ := hW w1 hc
        have := a2.pins
        rw [hk1] at this
        exact ⟨a1, this, a2.may, a2.lt, a3.put_node (x := none) hp HD.out (by intro _ _ e; cases e)⟩
      clear h hat hA hW hnd dn e1 hk1 hk0
      generalize hN : d.ns.length = N at *
      have HN := Lib.hid hN
      clear hN
      go_enter Tryz.func24, Tryz.ntmps24
      go_wp2_with (go_at_call 108; refine hth.mono ?_; rintro e w1 ⟨rfl, hc⟩; obtain ⟨q1, q2, q3, q4, q5⟩ := hW2 _ hc; clear hW2)
      go_ret
      rw [e2.out]
      exact HH.out.done HD.out hc (setRng_chg _ _ _ _) q5
  · skip
    have hth := rthere_calls b p d w h
    have dn : decide (p < d.ns.length) = false := by simpa using hp
    rw [dn] at hth
    clear dn
    have e1 : Hid (dDropE d.ns p = 31) := by unfold Hid dDropE; rw [if_neg hp]
    have e2 : Hid (dDrop d.ns p = d.ns) := by unfold Hid dDrop; rw [show (d.ns[p]?).join = none from d.nd_ge hp, if_neg (by simp [dnK]), List.set_eq_of_length_le (by omega)]
    rw [e1.out, e2.out]
    have HH := Lib.hid h
    clear h e1 e2
    go_enter Tryz.func24, Tryz.ntmps24
    go_wp2_with (go_at_call 108; refine hth.mono ?_; rintro e w1 ⟨rfl, hc⟩)
    go_ret
    exact HH.out.keep hc
end Go.Proofs.YtpklkefnmoaaaaaGreatDoor

/- The document's store: Back, Push. -/
namespace Go.Proofs.YtpklkefnmoaaaaaGreatDoor
open Go.RowKit
set_option linter.unusedVariables false
set_option linter.unusedSimpArgs false

def dBackE (ns : List DN) (p : Nat) : Int := if p < ns.length then (if ((ns[p]?).join).isSome then 53 else 0) else 31
def dBack (ns : List DN) (p : Nat) (h : Array Value) : List DN := if ((ns[p]?).join).isSome then ns else ns.set p (some (h, 0))
theorem rback_calls (b p : Nat) (d : DS) (H : Array Value) (w : World) (h : DIs w b d) (hH : IsHash H) :
    Calls Tryz.prog 99 #[.pointer (some ⟨b, 0, none⟩), .int .u64 p, .agg H] w (DP w b d (dBack d.ns p H) (.int .i64 (dBackE d.ns p))) := by
  have hb := h.blt
  have hs1 := hH.1
  have hs2 := hH.one
  have hc0 : Chg [] w (w.alloc (.cells H 36)) := (Chg.refl _ _).alloc _
  have hth := rthere_calls b p d _ (h.chg0 hc0)
  have hbox : ∀ w1, Chg [] (w.alloc (.cells H 36)) w1 → rng? w1 w.heap.size 0 32 = some H := fun w1 hc => rng?_chg hc (rng?_row (blk_new w (.cells H 36)) hs1) (by omega) (by simp)
  by_cases hp : p < d.ns.length
  · obtain ⟨g, hA, hne, hat⟩ := h.at hp
    have hW : ∀ w1, Chg [] w w1 → w1.cell? ⟨b, 1, none⟩ = some (.slice (some ⟨g, 0, none⟩) d.ns.length d.cap) ∧ DAt w1 g p d.ns[p] ∧ DIs w1 b d := fun w1 hc => by
      have h' := h.chg0 hc
      have := h'.c1
      rw [hA] at this
      exact ⟨this, hat.chg0 hc, h'⟩
    have hgl := hat.lt
    have HD := Lib.hid hA
    have HH := Lib.hid h
    have dn : decide (p < d.ns.length) = true := by simpa using hp
    rw [dn] at hth
    have hnd : (d.ns[p]?).join = d.ns[p] := d.nd_lt hp
    by_cases hlv : (d.ns[p]).isSome = true
    · have e1 : Hid (dBackE d.ns p = 53) := by unfold Hid dBackE; rw [if_pos hp, hnd, if_pos hlv]
      have e2 : Hid (dBack d.ns p H = d.ns) := by unfold Hid dBack; rw [hnd, if_pos hlv]
      rw [e1.out]
      have hW2 : ∀ w1, Chg [] w w1 → w1.cell? ⟨b, 1, none⟩ = some (.slice (some ⟨g, 0, none⟩) d.ns.length d.cap) ∧ w1.cell? ⟨g, p * 34 + 32, none⟩ = some (.bool true) := fun w1 hc => ⟨(hW w1 hc).1, by rw [← hlv]; exact (hW w1 hc).2.1.live⟩
      clear h hat hA hW hnd dn e1 hlv
      go_enter Tryz.func99, Tryz.ntmps99
      go_wp2_with (go_at_call 108; refine hth.mono ?_; rintro e w1 ⟨rfl, hc⟩; obtain ⟨q1, q2⟩ := hW2 _ (hc0.nil_trans hc); clear hW2)
      go_ret
      exact HH.out.keep2 (hc0.nil_trans hc) e2.out
    · have e1 : Hid (dBackE d.ns p = 0) := by unfold Hid dBackE; rw [if_pos hp, hnd, if_neg hlv]
      have e2 : Hid (dBack d.ns p H = d.ns.set p (some (H, 0))) := by unfold Hid dBack; rw [hnd, if_neg hlv]
      rw [e1.out]
      have hlv2 : (d.ns[p]).isSome = false := by simpa using hlv
      have hW2 : ∀ w1, Chg [] w w1 → w1.cell? ⟨b, 1, none⟩ = some (.slice (some ⟨g, 0, none⟩) d.ns.length d.cap) ∧ w1.cell? ⟨g, p * 34 + 32, none⟩ = some (.bool false) ∧ may w1 g (p * 34) 34 = true ∧ g < w1.heap.size ∧ DIs (setRng w1 g (p * 34) (rnOf H true 0)) b { d with ns := d.ns.set p (some (H, 0)) } := fun w1 hc => by
        obtain ⟨a1, a2, a3⟩ := hW w1 hc
        have := a2.live
        rw [hlv2] at this
        exact ⟨a1, this, a2.may, a2.lt, a3.put_node (x := some (H, 0)) hp HD.out (by intro _ _ e; cases e; exact ⟨hH, by omega⟩)⟩
      clear h hat hA hW hnd dn e1 hlv hlv2
      generalize hN : d.ns.length = N at *
      have HN := Lib.hid hN
      clear hN
      go_enter Tryz.func99, Tryz.ntmps99
      go_wp2_with (go_at_call 108; refine hth.mono ?_; rintro e w1 ⟨rfl, hc⟩; obtain ⟨q1, q2, q3, q4, q5⟩ := hW2 _ (hc0.nil_trans hc); have q6 := hbox _ hc; have q7 : w.heap.size < w1.heap.size := (by have := hc.size; simp at this; omega); clear hW2 hbox)
      go_region
      go_wp2
      go_ret
      rw [e2.out]
      exact HH.out.done HD.out (hc0.nil_trans hc) ((setRng_chg _ _ _ _).drew) (q5.chg0 ((Chg.refl _ _).drew))
  · have dn : decide (p < d.ns.length) = false := by simpa using hp
    rw [dn] at hth
    clear dn
    have e1 : Hid (dBackE d.ns p = 31) := by unfold Hid dBackE; rw [if_neg hp]
    have e2 : Hid (dBack d.ns p H = d.ns) := by unfold Hid dBack; rw [show (d.ns[p]?).join = none from d.nd_ge hp, if_neg (by simp), List.set_eq_of_length_le (by omega)]
    rw [e1.out]
    have HH := Lib.hid h
    clear h e1
    go_enter Tryz.func99, Tryz.ntmps99
    go_wp2_with (go_at_call 108; refine hth.mono ?_; rintro e w1 ⟨rfl, hc⟩)
    go_ret
    exact HH.out.keep2 (hc0.nil_trans hc) e2.out

def apZ (ts : Array TypeId) (ty : TypeId) (xs : Array Value) : Sem Value := Builtin.append_ ts ty xs
theorem hold_apZ (ts : Array TypeId) (ty : TypeId) (xs : Array Value) : Builtin.append_ ts ty xs = apZ ts ty xs := rfl
attribute [local go_sem ↓] hold_apZ
theorem DIs.grow {w : World} {b : Nat} {d : DS} (h : DIs w b d) (H : Array Value) (hH : IsHash H) (hl : d.ns.length < 4294967296) :
    ∃ A cap w', (apZ #[154, 154] 154 #[.slice d.A d.ns.length d.cap, .slice (some ⟨w.heap.size, 0, none⟩) 1 1]).run Tryz.prog (w.alloc (.cells (rnOf H true 0) 153)) = .ok (.slice A (d.ns.length + 1) cap) w' ∧
      LRow w' 153 34 (.slice A (d.ns.length + 1) cap) (d.ns.length + 1) (dnF (d.ns ++ [some (H, 0)])) ∧ Chg (ob d.sl) w w' ∧ (∀ k ∈ ob (.slice A (d.ns.length + 1) cap), k ∈ ob d.sl ∨ w.heap.size ≤ k) := by
  obtain ⟨i, hi, hz, hsz, hby⟩ := infoOf i_rnode
  have hc : Chg [] w (w.alloc (.cells (rnOf H true 0) 153)) := (Chg.refl _ _).alloc _
  obtain ⟨v', w', hr, h2, h3, h4⟩ := (h.row.chg hc (by simp)).append (P := Tryz.prog) (t := 154) (ty := 154) (i := i) (z := .agg (rnOf zeroHash false 0)) (bytes := 48) u_rnodes hi hz hsz hby (rnOf_size zeroHash_size _ _) (by decide) w.heap.size 1 1 (by decide) (rnOf H true 0).toList
    (by rw [Array.length_toList, rnOf_size hH.1]) (fun j u hu => blk_cell (blk_new w _) j (by simpa using hu)) (fun u hu => by
      have := rnOf_one hH.one true 0
      unfold one1 at this
      rw [Array.all_eq_true_iff_forall_mem] at this
      exact this u (by simpa using hu)) (by unfold maxLen; omega) (by omega)
  have hform : ∃ A cap, v' = .slice A (d.ns.length + 1) cap := by
    rcases h2.2 with ⟨_, q⟩ | ⟨g, cap, cur, rfl, _⟩
    · omega
    · exact ⟨_, _, rfl⟩
  obtain ⟨A, cap, rfl⟩ := hform
  refine ⟨A, cap, w', hr, ?_, hc.of_nil.trans h3 (fun k hk => .inl hk), fun k hk => ?_⟩
  · have : dnF (d.ns ++ [some (H, 0)]) = dnF d.ns ++ (rnOf H true 0).toList := by rw [dnF_append]; simp [dnF, dnC, dnH, dnK]
    rw [this]
    exact h2
  · rcases h4 k hk with q | q
    · exact .inl q
    · right; have := hc.size; omega
theorem rpush_calls (b : Nat) (d : DS) (H : Array Value) (w : World) (h : DIs w b d) (hH : IsHash H) (hl : d.ns.length < 4294967296) :
    Calls Tryz.prog 165 #[.pointer (some ⟨b, 0, none⟩), .agg H] w (DP w b d (d.ns ++ [some (H, 0)]) (.int .u64 d.ns.length)) := by
  obtain ⟨w0, rfl⟩ : ∃ w0 : World, w0 = w := ⟨_, rfl⟩
  have hb := h.blt
  have hs1 := hH.1
  have hs2 := hH.one
  have hc0 : Chg [] w0 (w0.alloc (.cells H 36)) := (Chg.refl _ _).alloc _
  have hc1 : Chg [] w0 (w0.alloc (.cells H 36)).drew := hc0.drew
  have h1 := h.chg0 hc1
  obtain ⟨A, cap, w2, hr, hrow, hc2, hf2⟩ := h1.grow H hH hl
  have hrun : (apZ #[154, 154] 154 #[.slice d.A d.ns.length d.cap, .slice (some ⟨(w0.alloc (.cells H 36)).heap.size, 0, none⟩) 1 1]).run Tryz.prog (((w0.alloc (.cells H 36)).alloc (.cells (rnOf H true 0) 153)).drew) = .ok (.slice A (d.ns.length + 1) cap) w2 := hr
  rw [World.size_alloc] at hrun
  have c1 : w0.cell? ⟨b, 1, none⟩ = some (.slice d.A d.ns.length d.cap) := h.c1
  have hd2 : w2.heap[b]? = some (.cells #[.int .i64 d.log, .slice d.A d.ns.length d.cap] 156 (0, 0)) := hc2.at h1.head h.apart
  have d1 : w2.cell? ⟨b, 1, none⟩ = some (.slice d.A d.ns.length d.cap) := blk_cell hd2 1 rfl
  have d2 : w2.frozen? ⟨b, 1, none⟩ = false := blk_frozen hd2 1
  have d3 : b < w2.heap.size := blk_lt hd2
  have d4 := blk_set hd2 1 (.slice A (d.ns.length + 1) cap)
  have hfin : DIs (w2.setCell ⟨b, 1, none⟩ (.slice A (d.ns.length + 1) cap)) b ⟨d.log, A, cap, d.ns ++ [some (H, 0)]⟩ := by
    have hba : b ∉ ob (.slice A (d.ns.length + 1) cap) := fun hk => by
      rcases hf2 b hk with q | q
      · exact h.apart q
      · have := h1.blt; omega
    refine ⟨by simpa using d4, ?_, by simpa [DS.sl, ob, Value.ownBlock] using hba, fun x hx => ?_, h.log, by simp; omega⟩
    · have := hrow.chg ((Chg.refl [b] w2).setCell (p := ⟨b, 1, none⟩) (.inl (by simp)) (.slice A (d.ns.length + 1) cap)) (fun k hk => by
        simp
        rintro rfl
        exact hba hk)
      simpa using this
    · rcases List.mem_append.1 hx with q | q
      · exact h.ok x q
      · simp at q; subst q; intro _ _ e; cases e; exact ⟨hH, by omega⟩
  have hmv : Mv (d.foot b) (DS.foot ⟨d.log, A, cap, d.ns ++ [some (H, 0)]⟩ b) w0 (w2.setCell ⟨b, 1, none⟩ (.slice A (d.ns.length + 1) cap)) := by
    refine ⟨((hc1.of_nil).trans (hc2.mono (G := d.foot b) (fun x hx _ => by simp only [DS.foot, List.mem_cons]; exact .inr hx)) (fun x hx => .inl hx)).setCell (.inl (by simp [DS.foot])) _, fun k hk => ?_⟩
    simp only [DS.foot, List.mem_cons] at hk
    rcases hk with rfl | hk
    · exact .inl (by simp [DS.foot])
    · rcases hf2 k (by simpa [DS.sl, ob, Value.ownBlock] using hk) with q | q
      · exact .inl (by simp only [DS.foot, List.mem_cons]; exact .inr q)
      · exact .inr (by have := hc1.size; omega)
  have HF := Lib.hid hfin
  have HM := Lib.hid hmv
  clear hfin hmv d4 hf2 hc2 hrow hd2 h1 hr h
  generalize hN : d.ns.length = N at *
  have HN := Lib.hid hN
  clear hN
  have d5 : (w2.setCell ⟨b, 1, none⟩ (.slice A (N + 1) cap)).cell? ⟨b, 1, none⟩ = some (.slice A (N + 1) cap) := by go_simp
  go_enter Tryz.func165, Tryz.ntmps165
  go_wp2
  go_region
  go_wp2
  go_ret
  refine ⟨?_, _, HF.out, rfl, rfl, HM.out⟩
  simp
end Go.Proofs.YtpklkefnmoaaaaaGreatDoor

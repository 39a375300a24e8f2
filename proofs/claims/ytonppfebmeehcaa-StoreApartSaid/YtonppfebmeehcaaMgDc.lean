/- Texts put into one: DcA DcB DcC DcD DcE DcF DcG DcH. -/
import Derived.Test.YtonppfebmeehcaaStA
import Derived.Test.YtonppfebmeehcaaOwn
import Derived.Test.YtonppfebmeehcaaStF
import Derived.BigRegion
import Derived.RegionTactic
import Derived.Deep.Cut
import Derived.Deep.RegionHeld3
import Derived.BigQuiet
import Derived.Deep.LoopGhost
import Derived.Test.YtonppfebmeehcaaUO
import Derived.Test.YtonppfebmeehcaaCnk
/- The document's store: a plain list of nodes; what it is in memory. -/
namespace Go.Proofs.Ytonppfebmeehcaa
open Go.RowKit
set_option linter.unusedVariables false
set_option linter.unusedSimpArgs false

/-- A row of elements whose array may be longer than the slice has room for. -/
def LRow (w : World) (e : TypeId) (size : Nat) (v : Value) (n : Nat) (xs : List Value) : Prop :=
  xs.length = n * size ∧ ((v = .slice none 0 0 ∧ n = 0) ∨ ∃ g cap cur, v = .slice (some ⟨g, 0, none⟩) n cap ∧ w.heap[g]? = some (.cells cur e (0, 0)) ∧ n ≤ cap ∧ cap ≤ maxLen ∧ cap * size ≤ cur.size ∧ cur.toList.take (n * size) = xs)
theorem LRow.of_own {w : World} {base : Nat} {e : TypeId} {size n : Nat} {v : Value} {xs : List Value} (h : w.ownsRow base e size v n xs) : LRow w e size v n xs := by
  refine ⟨h.1, ?_⟩
  rcases h.2 with hv | ⟨g, cap, cur, rfl, hb, hh, h1, h2, h3, h4⟩
  · exact .inl hv
  · exact .inr ⟨g, cap, cur, rfl, hh, h1, h2, by omega, h4⟩
theorem LRow.chg {w w' : World} {e : TypeId} {size n : Nat} {v : Value} {xs : List Value} {F : List Nat} (h : LRow w e size v n xs) (hc : Chg F w w') (hF : ∀ k ∈ ob v, k ∉ F) : LRow w' e size v n xs := by
  refine ⟨h.1, ?_⟩
  rcases h.2 with hv | ⟨g, cap, cur, rfl, hh, hr⟩
  · exact .inl hv
  · exact .inr ⟨g, cap, cur, rfl, hc.at hh (hF g (by simp [ob, Value.ownBlock])), hr⟩
theorem LRow.lt {w : World} {e : TypeId} {size n : Nat} {v : Value} {xs : List Value} (h : LRow w e size v n xs) : ∀ k ∈ ob v, k < w.heap.size := by
  intro k hk
  rcases h.2 with ⟨rfl, _⟩ | ⟨g, cap, cur, rfl, hh, _⟩
  · simp [ob, Value.ownBlock] at hk
  · simp [ob, Value.ownBlock] at hk
    subst hk
    exact blk_lt hh
theorem LRow.rd {w : World} {e : TypeId} {size n c : Nat} {A : Option Addr} {xs : List Value} (h : LRow w e size (.slice A n c) n xs) : Rd w size A n xs := by
  refine ⟨h.1, fun hn => ?_⟩
  rcases h.2 with ⟨hv, h0⟩ | ⟨g, cap, cur, hv, hh, hnc, _, hcs, ht⟩
  · omega
  · injection hv with hA
    refine ⟨g, 0, hA, fun j u hu => ?_⟩
    rw [Nat.zero_add]
    refine blk_cell hh j ?_
    rw [← ht, List.getElem?_take] at hu
    split at hu
    · simpa using hu
    · cases hu
/-- One element more. -/
theorem LRow.append {P : Program} {w : World} {t ty e : TypeId} {i : TypeInfo} {z : Value} {size bytes : Nat} (ht : P.underlying t = some (.slice e)) (hi : P.info? e = some i) (hz : i.zero = some z)
    (hsize : i.size = size) (hby : i.bytes = bytes) (hzs : z.cells.size = size) (hsz : 0 < size)
    {v : Value} {n : Nat} {xs : List Value} (h : LRow w e size v n xs) (b m c : Nat) (hm0 : 0 < m) (news : List Value) (hl : news.length = m * size) (hnews : ∀ j u, news[j]? = some u → w.cell? ⟨b, j, none⟩ = some u) (h1 : ∀ u ∈ news, u.oneCell' = true)
    (h63 : n + m ≤ maxLen) (hbytes : (n + m) * bytes ≤ 140737488355328) :
    ∃ v' w', (Builtin.append_ #[t, t] ty #[v, .slice (some ⟨b, 0, none⟩) m c]).run P w = .ok v' w' ∧ LRow w' e size v' (n + m) (xs ++ news) ∧ Chg (ob v) w w' ∧ (∀ k ∈ ob v', k ∈ ob v ∨ w.heap.size ≤ k) := by
  have hadd : ∀ g j, (⟨g, 0, none⟩ : Addr).add j = ⟨g, j, none⟩ := by intro g j; unfold Addr.add; split <;> simp_all
  rcases h.2 with ⟨rfl, rfl⟩ | ⟨g, cap, cur, rfl, hh, hnc, hcm, hcs, htk⟩
  · have hx : xs = [] := List.eq_nil_of_length_eq_zero (by simpa using h.1)
    subst hx
    obtain ⟨v', w', hr, ho, hc, hf⟩ := run_append_any (P := P) w w.heap.size t ty e i z size bytes ht hi hz hsize hby hzs hsz (.slice none 0 0) 0 [] (own_nil _ _ _ _) (some ⟨b, 0, none⟩) m c news ⟨hl, fun _ => ⟨b, 0, rfl, fun j u hu => by rw [Nat.zero_add]; exact hnews j u hu⟩⟩ h1 h63 hbytes (Nat.le_refl _)
    exact ⟨v', w', hr, LRow.of_own ho, hc, hf⟩
  · by_cases hroom : n + m ≤ cap
    · have hfit : n * i.size + news.length ≤ cur.size := by
        rw [hl, hsize, ← Nat.add_mul]
        exact Nat.le_trans (Nat.mul_le_mul_right _ hroom) hcs
      have hr := run_append_room (P := P) w t ty e i ht hi g n cap cur hh ⟨b, 0, none⟩ m c news (by rw [hsize]; exact hl) (fun j u hu => by rw [hadd]; exact hnews j u hu) h1 hroom hfit
      refine ⟨_, _, hr, ⟨by rw [List.length_append, h.1, hl, Nat.add_mul], .inr ⟨g, cap, _, rfl, setRow_heap w g cur _ e _ hh, hroom, hcm, ?_, ?_⟩⟩, (Chg.refl _ _).setRow (by simp [ob, Value.ownBlock]) _, fun k hk => .inl hk⟩
      · simp only [List.size_toArray, List.length_append, List.length_take, List.length_drop, Array.length_toList]
        omega
      · rw [hsize, htk]
        have : (xs ++ news).length = (n + m) * size := by rw [List.length_append, h.1, hl, Nat.add_mul]
        rw [← this]
        exact List.take_left
    · obtain ⟨v', w', hr, ho, hg⟩ := run_append_arg_grows (P := P) w t ty e i z size bytes ht hi hz hsize hby hzs hsz ⟨g, 0, none⟩ n cap xs h.1
        (fun j u hu => by
          rw [hadd]
          refine blk_cell hh j ?_
          rw [← htk, List.getElem?_take] at hu
          split at hu
          · simpa using hu
          · cases hu) ⟨b, 0, none⟩ m c news hl (fun j u hu => by rw [hadd]; exact hnews j u hu) (by omega) h63 hbytes
      exact ⟨v', w', hr, LRow.of_own ho, Chg.of_grown hg (by simp), fun k hk => .inr (own_lt ho k hk).1⟩

/-! The nodes. -/
abbrev DN := Option (Array Value × Nat)
def dnH : DN → Array Value
  | some (h, _) => h
  | none => zeroHash
def dnK : DN → Nat
  | some (_, k) => k
  | none => 0
def rnOf (h : Array Value) (b : Bool) (k : Nat) : Array Value := (h.push (.bool b)).push (.int .i64 k)
def dnC (x : DN) : Array Value := rnOf (dnH x) x.isSome (dnK x)
def dnOk (x : DN) : Prop := ∀ h k, x = some (h, k) → IsHash h ∧ k < 4611686018427387904
theorem dnOk.is {x : DN} (h : dnOk x) : IsHash (dnH x) ∧ dnK x < 4611686018427387904 := by
  cases x with
  | none => exact ⟨zeroHash_is, by simp [dnK]⟩
  | some y => exact h y.1 y.2 rfl
theorem rnOf_size {h : Array Value} (hh : h.size = 32) (b : Bool) (k : Nat) : (rnOf h b k).size = 34 := by simp [rnOf, hh]
theorem rnOf_one {h : Array Value} (hh : one1 h = true) (b : Bool) (k : Nat) : one1 (rnOf h b k) = true := by
  unfold one1 at *
  rw [Array.all_eq_true_iff_forall_mem] at hh ⊢
  intro v hv
  simp only [rnOf, Array.mem_push] at hv
  rcases hv with (hv | rfl) | rfl
  · exact hh v hv
  · rfl
  · rfl
attribute [go_sem] rnOf_size rnOf_one
theorem dnC_size {x : DN} (h : dnOk x) : (dnC x).size = 34 := rnOf_size h.is.1.1 _ _
def dnF (ns : List DN) : List Value := ns.flatMap fun x => (dnC x).toList
theorem dnF_length {ns : List DN} (h : ∀ x ∈ ns, dnOk x) : (dnF ns).length = ns.length * 34 := by
  induction ns with
  | nil => rfl
  | cons x ns ih =>
    unfold dnF at ih ⊢
    rw [List.flatMap_cons, List.length_append, ih (fun y hy => h y (by simp [hy])), List.length_cons, Array.length_toList, dnC_size (h x (by simp))]
    omega
theorem dnF_append (a b : List DN) : dnF (a ++ b) = dnF a ++ dnF b := by simp [dnF]
theorem dnF_at {ns : List DN} (h : ∀ x ∈ ns, dnOk x) : ∀ (i : Nat) (hi : i < ns.length) (j : Nat) (hj : j < 34), (dnF ns)[i * 34 + j]? = (dnC ns[i])[j]? := by
  induction ns with
  | nil => intro i hi; simp at hi
  | cons x ns ih =>
    intro i hi j hj
    have hx := dnC_size (h x (by simp))
    have e : dnF (x :: ns) = (dnC x).toList ++ dnF ns := by simp [dnF]
    rw [e]
    cases i with
    | zero =>
      rw [List.getElem?_append_left (by simp; omega)]
      simp
    | succ i =>
      rw [List.getElem?_append_right (by simp; omega), Array.length_toList, hx, show (i + 1) * 34 + j - 34 = i * 34 + j from by omega, ih (fun y hy => h y (by simp [hy])) i (by simpa using hi) j hj]
      simp
theorem dnF_set {ns : List DN} (h : ∀ x ∈ ns, dnOk x) {i : Nat} (hi : i < ns.length) {x : DN} :
    dnF (ns.set i x) = (dnF ns).take (i * 34) ++ (dnC x).toList ++ (dnF ns).drop (i * 34 + 34) := by
  have hd : ns = ns.take i ++ (ns[i] :: ns.drop (i + 1)) := by rw [← List.drop_eq_getElem_cons hi, List.take_append_drop]
  have hc : ∀ (y : DN) (l : List DN), dnF (y :: l) = (dnC y).toList ++ dnF l := by intro y l; simp [dnF]
  have e1 : dnF ns = dnF (ns.take i) ++ ((dnC ns[i]).toList ++ dnF (ns.drop (i + 1))) := (congrArg dnF hd).trans (by rw [dnF_append, hc])
  have l1 : (dnF (ns.take i)).length = i * 34 := by
    rw [dnF_length (fun y q => h y (List.mem_of_mem_take q))]; simp; omega
  have l2 : (dnC ns[i]).toList.length = 34 := by rw [Array.length_toList]; exact dnC_size (h _ (List.getElem_mem hi))
  rw [List.set_eq_take_append_cons_drop, if_pos hi, dnF_append, hc, e1]
  generalize dnF (ns.take i) = A at *
  generalize (dnC ns[i]).toList = B at *
  generalize dnF (ns.drop (i + 1)) = C at *
  have e2 : (A ++ (B ++ C)).take (i * 34) = A := by rw [← l1, List.take_left]
  have e3 : (A ++ (B ++ C)).drop (i * 34 + 34) = C := by
    rw [← List.append_assoc, show i * 34 + 34 = (A ++ B).length from by simp [l1, l2], List.drop_left]
  rw [e2, e3]
  simp

/-- The document's store: its number, its row (a slice), its nodes. -/
structure DS where
  log : Nat
  A : Option Addr
  cap : Nat
  ns : List DN
def DS.sl (d : DS) : Value := .slice d.A d.ns.length d.cap
def DS.foot (d : DS) (b : Nat) : List Nat := b :: ob d.sl
structure DIs (w : World) (b : Nat) (d : DS) : Prop where
  head : w.heap[b]? = some (.cells #[.int .i64 d.log, .slice d.A d.ns.length d.cap] 91 (0, 0))
  row : LRow w 114 34 (.slice d.A d.ns.length d.cap) d.ns.length (dnF d.ns)
  apart : b ∉ ob d.sl
  ok : ∀ x ∈ d.ns, dnOk x
  log : d.log ≤ 16
  len : d.ns.length ≤ 4294967296
theorem DIs.chg {w w' : World} {b : Nat} {d : DS} {F : List Nat} (h : DIs w b d) (hc : Chg F w w') (hF : ∀ k ∈ d.foot b, k ∉ F) : DIs w' b d :=
  ⟨hc.at h.head (hF b (by simp [DS.foot])), h.row.chg hc (fun k hk => hF k (by simp only [DS.foot, List.mem_cons]; exact .inr hk)), h.apart, h.ok, h.log, h.len⟩
theorem DIs.chg0 {w w' : World} {b : Nat} {d : DS} (h : DIs w b d) (hc : Chg [] w w') : DIs w' b d := h.chg hc (by simp)
theorem DIs.lt {w : World} {b : Nat} {d : DS} (h : DIs w b d) : ∀ k ∈ d.foot b, k < w.heap.size := by
  intro k hk
  simp only [DS.foot, List.mem_cons] at hk
  rcases hk with rfl | hk
  · exact blk_lt h.head
  · exact h.row.lt k hk
theorem DIs.c0 {w : World} {b : Nat} {d : DS} (h : DIs w b d) : w.cell? ⟨b, 0, none⟩ = some (.int .i64 d.log) := blk_cell h.head 0 rfl
theorem DIs.c1 {w : World} {b : Nat} {d : DS} (h : DIs w b d) : w.cell? ⟨b, 1, none⟩ = some (.slice d.A d.ns.length d.cap) := blk_cell h.head 1 rfl
theorem DIs.blt {w : World} {b : Nat} {d : DS} (h : DIs w b d) : b < w.heap.size := blk_lt h.head
/-- One of its nodes. -/
structure DAt (w : World) (g i : Nat) (x : DN) : Prop where
  hash : rng? w g (i * 34) 32 = some (dnH x)
  live : w.cell? ⟨g, i * 34 + 32, none⟩ = some (.bool x.isSome)
  pins : w.cell? ⟨g, i * 34 + 33, none⟩ = some (.int .i64 (dnK x))
  may : may w g (i * 34) 34 = true
  fz : w.frozen? ⟨g, i * 34 + 33, none⟩ = false
  lt : g < w.heap.size
theorem DIs.at {w : World} {b : Nat} {d : DS} (h : DIs w b d) {i : Nat} (hi : i < d.ns.length) : ∃ g, d.A = some ⟨g, 0, none⟩ ∧ b ≠ g ∧ DAt w g i d.ns[i] := by
  rcases h.row.2 with ⟨hv, h0⟩ | ⟨g, cap, cur, hv, hh, hnc, _, hcs, ht⟩
  · omega
  · injection hv with hA hn hcap
    have hx := (h.ok _ (List.getElem_mem hi)).is
    have key : ∀ j, j < 34 → ∀ u, (dnC d.ns[i])[j]? = some u → w.cell? ⟨g, i * 34 + j, none⟩ = some u := by
      intro j hj u hu
      refine blk_cell hh (i * 34 + j) ?_
      have e := dnF_at h.ok i hi j hj
      rw [hu, ← ht, List.getElem?_take] at e
      split at e
      · simpa using e
      · cases e
    have hsz : i * 34 + 34 ≤ cur.size := by
      have : (i + 1) * 34 ≤ d.ns.length * 34 := Nat.mul_le_mul_right _ hi
      have : d.ns.length * 34 ≤ cap * 34 := Nat.mul_le_mul_right _ hnc
      omega
    refine ⟨g, hA, ?_, ⟨?_, ?_, ?_, may_row _ _ hh hsz, frozen_of_row _ _ _ _ _ hh, blk_lt hh⟩⟩
    · rintro rfl
      exact h.apart (by simp [DS.sl, hA, ob, Value.ownBlock])
    · refine rng?_mk hx.1.1 fun j hj => ?_
      have := hx.1.1
      refine key j (by omega) _ ?_
      unfold dnC rnOf
      rw [Array.getElem?_push_lt (by simp; omega), Array.getElem_push_lt (by omega)]
    · refine key 32 (by omega) _ ?_
      unfold dnC rnOf
      rw [Array.getElem?_push_lt (by simp [hx.1.1])]
      simp [Array.getElem_push, hx.1.1]
    · refine key 33 (by omega) _ ?_
      unfold dnC rnOf
      rw [Array.getElem?_push]
      simp [hx.1.1]
/-- A node is another one now. -/
theorem DIs.put {w w' : World} {b g i : Nat} {d : DS} (h : DIs w b d) (hi : i < d.ns.length) (hA : d.A = some ⟨g, 0, none⟩) {x : DN} (hx : dnOk x) (hc : Chg [g] w w')
    (hw : ∀ cur : Array Value, w.heap[g]? = some (.cells cur 114 (0, 0)) → i * 34 + 34 ≤ cur.size → cur.toList.take (d.ns.length * 34) = dnF d.ns → ∃ cur' : Array Value, w'.heap[g]? = some (.cells cur' 114 (0, 0)) ∧ cur'.toList = cur.toList.take (i * 34) ++ (dnC x).toList ++ cur.toList.drop (i * 34 + 34)) :
    DIs w' b { d with ns := d.ns.set i x } := by
  have hap := h.apart
  have hne : b ≠ g := by rintro rfl; exact hap (by simp [DS.sl, hA, ob, Value.ownBlock])
  have hok' : ∀ y ∈ d.ns.set i x, dnOk y := fun y hy => by
    rcases List.mem_or_eq_of_mem_set hy with q | rfl
    · exact h.ok y q
    · exact hx
  refine ⟨?_, ?_, ?_, hok', h.log, by simpa using h.len⟩
  · have := hc.at h.head (by simpa using hne)
    simpa using this
  · rcases h.row.2 with ⟨hv, h0⟩ | ⟨g', cap, cur, hv, hh, hnc, hcm, hcs, ht⟩
    · omega
    · injection hv with hA' hn hcap
      rw [hA] at hA'
      injection hA' with hA'
      injection hA' with hA'
      subst hA'
      have hsz : (i + 1) * 34 ≤ d.ns.length * 34 := Nat.mul_le_mul_right _ hi
      have hsz2 : d.ns.length * 34 ≤ cap * 34 := Nat.mul_le_mul_right _ hnc
      obtain ⟨cur', h1, h2⟩ := hw cur hh (by omega) ht
      have hxs : (dnC x).toList.length = 34 := by rw [Array.length_toList]; exact dnC_size hx
      have hcl : cur.toList.length = cur.size := Array.length_toList
      refine ⟨by simpa using dnF_length hok', .inr ⟨g, cap, cur', by simp [hA, hcap], h1, by simpa using hnc, hcm, ?_, ?_⟩⟩
      · rw [← Array.length_toList, h2]
        simp only [List.length_append, List.length_take, List.length_drop, hxs]
        omega
      · rw [h2, dnF_set h.ok hi, ← ht, List.length_set]
        generalize (dnC x).toList = X at *
        generalize cur.toList = C at *
        rw [List.take_take, Nat.min_eq_left (by omega)]
        have l1 : (C.take (i * 34) ++ X).length = i * 34 + 34 := by simp; omega
        rw [List.take_append, l1, List.take_of_length_le (by omega), List.drop_take]
  · simpa [DS.sl] using hap
theorem DIs.put_node {w : World} {b g i : Nat} {d : DS} (h : DIs w b d) (hi : i < d.ns.length) (hA : d.A = some ⟨g, 0, none⟩) {x : DN} (hx : dnOk x) :
    DIs (setRng w g (i * 34) (dnC x)) b { d with ns := d.ns.set i x } :=
  h.put hi hA hx (setRng_chg _ _ _ _) fun cur hh hs _ => ⟨_, setRng_heap hh (i * 34) (dnC x) (by rw [dnC_size hx]; exact hs), by rw [dnC_size hx]⟩
theorem DIs.put_pins {w : World} {b g i : Nat} {d : DS} (h : DIs w b d) (hi : i < d.ns.length) (hA : d.A = some ⟨g, 0, none⟩) {H : Array Value} {k k' : Nat} (hd : d.ns[i] = some (H, k)) (hk : k' < 4611686018427387904) :
    DIs (w.setCell ⟨g, i * 34 + 33, none⟩ (.int .i64 k')) b { d with ns := d.ns.set i (some (H, k')) } := by
  have hH := ((h.ok _ (List.getElem_mem hi)).is).1
  rw [hd] at hH
  refine h.put hi hA (fun h' k'' e => by cases e; exact ⟨hH, hk⟩) ((Chg.refl _ _).setCell (by simp) _) fun cur hh hs ht => ⟨_, blk_set hh _ _, ?_⟩
  have hc : ∀ j, j < 34 → (dnC d.ns[i])[j]? = cur.toList[i * 34 + j]? := fun j hj => by
    rw [← dnF_at h.ok i hi j hj, ← ht, List.getElem?_take, if_pos]
    have : (i + 1) * 34 ≤ d.ns.length * 34 := Nat.mul_le_mul_right _ hi
    omega
  have hHs : H.size = 32 := hH.1
  rw [hd] at hc
  apply List.ext_getElem?
  intro j
  rw [Array.toList_setIfInBounds, List.getElem?_set]
  have hcl : cur.toList.length = cur.size := Array.length_toList
  have hxs2 : (dnC (some (H, k'))).size = 34 := rnOf_size hHs _ _
  have hxs : (dnC (some (H, k'))).toList.length = 34 := by rw [Array.length_toList]; exact hxs2
  have hE : ∀ j, j < 33 → (dnC (some (H, k')))[j]? = (dnC (some (H, k)))[j]? := by
    intro j hj
    unfold dnC rnOf dnH dnK
    simp only [Option.isSome_some]
    rw [Array.getElem?_push_lt (by simp [hHs]; omega), Array.getElem?_push_lt (by simp [hHs]; omega)]
  by_cases j1 : j < i * 34
  · rw [if_neg (by omega), List.append_assoc, List.getElem?_append_left (by simp; omega), List.getElem?_take, if_pos j1]
  · by_cases j2 : j < i * 34 + 34
    · rw [List.getElem?_append_left (by simp; omega), List.getElem?_append_right (by simp; omega)]
      have hlt : (cur.toList.take (i * 34)).length = i * 34 := by simp; omega
      rw [hlt]
      by_cases j3 : j = i * 34 + 33
      · subst j3
        rw [if_pos rfl, if_pos (by omega), show i * 34 + 33 - i * 34 = 33 from by omega, Array.getElem?_toList]
        unfold dnC rnOf dnH dnK
        rw [Array.getElem?_push]
        simp [hHs]
      · have e1 := hE (j - i * 34) (by omega)
        rw [hc _ (by omega)] at e1
        rw [if_neg (by omega), Array.getElem?_toList (xs := dnC (some (H, k'))), e1]
        congr 1
        omega
    · rw [if_neg (by omega), List.getElem?_append_right (by simp; omega), List.getElem?_drop]
      congr 1
      simp
      omega

/-! The walk's rules on its nodes. -/
@[go_sem ↓] theorem hold_st_rnode (x v : Value) : Instr.storeAt 114 x v = stX 114 x v := rfl
@[go_sem ↓] theorem hold_bd_rnode (ps : Array (Nat × Value)) : Instr.build 114 ps = bdX 114 ps := rfl
@[go_sem ↓] theorem hold_bs_rnode (n : Nat) (ps : Array (Nat × Value)) : Instr.buildSlice 89 n ps = bsX 89 n ps := rfl
theorem u_rnode : Try.prog.underlying 114 = some (.struct (Try.prog.fieldsOf 114)) := by kernel_rfl
@[go_sem] theorem st_rnode (b o : Nat) (cs : Array Value) (w : World) : (stX 114 (.pointer (some ⟨b, o, none⟩)) (.agg cs)).run Try.prog w = stR Try.prog 114 b o cs w (may w b o 34 && decide (cs.size = 34) && one1 cs) := run_stR _ 34 (by kernel_rfl) b o cs w
theorem zv_rnode (w : World) : (zeroValue 114).run Try.prog w = .ok (.agg (rnOf zeroHash false 0)) w := by kernel_rfl
@[go_sem] theorem bd_rnode0 (w : World) : (bdX 114 #[]).run Try.prog w = .ok (.agg (rnOf zeroHash false 0)) w := by kernel_rfl
theorem run_places_rnode (w : World) : ((Try.prog.fieldsOf 114).mapM fun (f : Field) => do pure (f.offset, ← sizeOf f.type)).run Try.prog w = .ok #[(0, 32), (32, 1), (33, 1)] w := by kernel_rfl
@[go_sem] theorem bd_rnode (h : Array Value) (b : Bool) (hh : h.size = 32) (w : World) : (bdX 114 #[(0, .agg h), (1, .bool b)]).run Try.prog w = .ok (.agg (rnOf h b 0)) w := by
  unfold bdX Instr.build
  simp only [Sem.run_bind, zv_rnode, run_underlying u_rnode, Result.andThen_ok, run_places_rnode]
  have hz : (rnOf zeroHash false 0).size = 34 := rnOf_size zeroHash_size false 0
  have hl : h.toList.length = 32 := by simpa using hh
  simp only [Value.cells]
  rw [fill_part _ _ 0 0 32 (.agg h) _ rfl (by simpa [Value.cells] using hh) (by omega)]
  rw [fill_part _ _ 1 32 1 (.bool b) _ rfl rfl (by simp [Value.cells, hh, hz, zeroHash_size])]
  simp only [Instr.fill, Sem.run_pure, Result.ok.injEq, and_true, Value.agg.injEq]
  apply Array.toList_inj.1
  simp [rnOf, Value.cells, hh, hz, List.take_append, hl, zeroHash_size, List.drop_append]
theorem u_rnodes : Try.prog.underlying 89 = some (.slice 114) := by kernel_rfl
theorem i_rnode : (Try.prog.info? 114).map (fun i => (i.zero, i.size, i.bytes)) = some (some (.agg (rnOf zeroHash false 0)), 34, 48) := by kernel_rfl
@[go_sem] theorem bs_rnode (cs : Array Value) (hs : cs.size = 34) (w : World) : (bsX 89 1 #[(0, .agg cs)]).run Try.prog w = .ok (.slice (some ⟨w.heap.size, 0, none⟩) 1 1) (w.alloc (.cells cs 114)) := by
  obtain ⟨i, hi, hz, hsz, _⟩ := infoOf i_rnode
  unfold bsX Instr.buildSlice
  have h34 : (rnOf zeroHash false 0).size = 34 := rnOf_size zeroHash_size false 0
  have hso : ∀ w, (sizeOf 114).run Try.prog w = .ok 34 w := by intro w; simp [sizeOf, typeInfo, hi, hsz]
  simp only [Sem.run_bind, run_underlying u_rnodes, Result.andThen_ok, hso, zv_rnode, Sem.run_ite, Nat.one_mul, Sem.run_pure]
  simp only [show ¬ (34 > 2 ^ 24) from by decide, show ¬ (34 = 0) from by decide, if_false, Result.andThen_ok, Value.cells]
  rw [fill_part _ _ 0 0 34 (.agg cs) _ rfl (by simpa [Value.cells] using hs) (by simp)]
  have e : ((((Array.range 34).map fun x => (rnOf zeroHash false 0)[x % (rnOf zeroHash false 0).size]!).toList.take 0 ++ (Value.agg cs).cells.toList ++ ((Array.range 34).map fun x => (rnOf zeroHash false 0)[x % (rnOf zeroHash false 0).size]!).toList.drop (0 + 34)).toArray) = cs := by
    apply Array.toList_inj.1
    simp [Value.cells]
  rw [e]
  rfl
end Go.Proofs.Ytonppfebmeehcaa

/- The document's store: small readers, New. -/
namespace Go.Proofs.Ytonppfebmeehcaa
open Go.RowKit
set_option linter.unusedVariables false
set_option linter.unusedSimpArgs false

def DS.nd (d : DS) (p : Nat) : DN := (d.ns[p]?).join
def DS.getE (d : DS) (p : Nat) : Int := if p < d.ns.length then (if (d.nd p).isSome then 0 else 50) else 31
theorem DS.nd_lt {d : DS} {p : Nat} (h : p < d.ns.length) : d.nd p = d.ns[p] := by unfold DS.nd; rw [List.getElem?_eq_getElem h]; rfl
theorem DS.nd_ge {d : DS} {p : Nat} (h : ¬ p < d.ns.length) : d.nd p = none := by unfold DS.nd; rw [List.getElem?_eq_none (by omega)]; rfl
theorem rthere_calls (b p : Nat) (d : DS) (w : World) (h : DIs w b d) : Calls Try.prog 75 #[.pointer (some ⟨b, 0, none⟩), .int .u64 p] w (Res w [] (.bool (decide (p < d.ns.length)))) := by
  have hb := h.blt
  have hc := h.c1
  have hl := h.len
  have e : Hid (decide (p < d.ns.length) = decide ((p : Int) < wrap64 (d.ns.length : Int))) := by
    unfold Hid wrap64
    congr 1
    apply propext
    omega
  generalize d.ns.length = N at *
  go_enter Try.func75, Try.ntmps75
  go_wp2
  go_ret
  refine ⟨?_, Chg.refl _ _⟩
  rw [e.out]
  rfl
theorem rlen_calls (b : Nat) (d : DS) (w : World) (h : DIs w b d) : Calls Try.prog 62 #[.pointer (some ⟨b, 0, none⟩)] w (Res w [] (.int .u64 d.ns.length)) := by
  have hb := h.blt
  have hc := h.c1
  have hl := h.len
  have e : Hid (wrap64 (d.ns.length : Int) = (d.ns.length : Int)) := by unfold Hid wrap64; omega
  generalize d.ns.length = N at *
  go_enter Try.func62, Try.ntmps62
  go_wp2
  go_ret
  exact ⟨by simp, Chg.refl _ _⟩
theorem rget_calls (b p : Nat) (d : DS) (w : World) (h : DIs w b d) : Calls Try.prog 71 #[.pointer (some ⟨b, 0, none⟩), .int .u64 p] w (Res w [] (.tuple #[.agg (dnH (d.nd p)), .int .i64 (d.getE p)])) := by
  have hb := h.blt
  have hth := rthere_calls b p d (w.alloc (.cells zeroHash 30)) (h.chg0 ((Chg.refl _ _).alloc _))
  have hc : ∀ w', Chg [] w w' → w'.cell? ⟨b, 1, none⟩ = some (.slice d.A d.ns.length d.cap) := fun w' hc => (h.chg0 hc).c1
  by_cases hp : p < d.ns.length
  · obtain ⟨g, hA, hne, hat⟩ := h.at hp
    have e1 := d.nd_lt hp
    have hx := (h.ok _ (List.getElem_mem hp)).is.1
    rw [← e1] at hat hx
    have hsz := hx.1
    have hone := hx.one
    have hatW : ∀ w', Chg [] w w' → rng? w' g (p * 34) 32 = some (dnH (d.nd p)) ∧ w'.cell? ⟨g, p * 34 + 32, none⟩ = some (.bool (d.nd p).isSome) := fun w' hc => ⟨rng?_chg hc hat.hash (by omega) (by simp), by rw [hc.cell (p := ⟨g, p * 34 + 32, none⟩) hat.lt (by simp)]; exact hat.live⟩
    have e2 : d.getE p = if (d.nd p).isSome then 0 else 50 := by unfold DS.getE; rw [if_pos hp]
    have dn : decide (p < d.ns.length) = true := by simpa using hp
    rw [hA] at hc
    rw [dn] at hth
    have hgl := hat.lt
    clear h hat e1 hx hA dn
    cases hn : d.nd p with
    | none =>
      rw [hn] at e2 hatW hsz hone
      have e3 : Hid (d.getE p = 50) := by rw [e2]; rfl
      clear e2
      go_enter Try.func71, Try.ntmps71
      go_wp2_with (go_at_call 75; refine hth.mono ?_; rintro e w1 ⟨rfl, hc1⟩; have hm1 := may_chg hc1 (may_alloc_at w w.heap.size 32 zeroHash 30 rfl zeroHash_size) (by omega) (by simp); have hr1 := hc w1 (((Chg.refl _ _).alloc _).nil_trans hc1); obtain ⟨hr2, hr3⟩ := hatW w1 (((Chg.refl _ _).alloc _).nil_trans hc1); clear hc hatW)
      refine bodyPost_ret (res_Hash2 rfl _ _ rfl (rng?_setRng_same _ _ _ _ _ hm1 zeroHash_size)) rfl ⟨by rw [e3.out]; rfl, ?_⟩
      exact (((Chg.refl _ _).alloc _).nil_trans hc1).setRng (by simp) _ _
    | some y =>
      rw [hn] at e2 hatW hsz hone
      have e3 : Hid (d.getE p = 0) := by rw [e2]; rfl
      clear e2
      go_enter Try.func71, Try.ntmps71
      go_wp2_with (go_at_call 75; refine hth.mono ?_; rintro e w1 ⟨rfl, hc1⟩; have hm1 := may_chg hc1 (may_alloc_at w w.heap.size 32 zeroHash 30 rfl zeroHash_size) (by omega) (by simp); have hr1 := hc w1 (((Chg.refl _ _).alloc _).nil_trans hc1); obtain ⟨hr2, hr3⟩ := hatW w1 (((Chg.refl _ _).alloc _).nil_trans hc1); clear hc hatW)
      refine bodyPost_ret (res_Hash2 rfl _ _ rfl (rng?_setRng_same _ _ _ _ _ hm1 hsz)) rfl ⟨by rw [e3.out]; rfl, ?_⟩
      exact (((Chg.refl _ _).alloc _).nil_trans hc1).setRng (by simp) _ _
  · have e1 := d.nd_ge hp
    have e2 : Hid (d.getE p = 31) := by unfold Hid DS.getE; rw [if_neg hp]
    have dn : decide (p < d.ns.length) = false := by simpa using hp
    rw [dn] at hth
    rw [e1]
    clear h hc dn e1
    go_enter Try.func71, Try.ntmps71
    go_wp2_with (go_at_call 75; refine hth.mono ?_; rintro e w1 ⟨rfl, hc1⟩; have hm1 := may_chg hc1 (may_alloc_at w w.heap.size 32 zeroHash 30 rfl zeroHash_size) (by omega) (by simp))
    refine bodyPost_ret (res_Hash2 rfl _ _ rfl (rng?_setRng_same _ _ _ _ _ hm1 zeroHash_size)) rfl ⟨by rw [e2.out]; rfl, ?_⟩
    exact (((Chg.refl _ _).alloc _).nil_trans hc1).setRng (by simp) _ _
theorem rlive_calls (b p : Nat) (d : DS) (w : World) (h : DIs w b d) : Calls Try.prog 72 #[.pointer (some ⟨b, 0, none⟩), .int .u64 p] w (Res w [] (.bool (d.nd p).isSome)) := by
  have hb := h.blt
  have hth := rthere_calls b p d w h
  have hc : ∀ w', Chg [] w w' → w'.cell? ⟨b, 1, none⟩ = some (.slice d.A d.ns.length d.cap) := fun w' hc => (h.chg0 hc).c1
  by_cases hp : p < d.ns.length
  · obtain ⟨g, hA, hne, hat⟩ := h.at hp
    have e1 := d.nd_lt hp
    rw [← e1] at hat
    have hatW : ∀ w', Chg [] w w' → w'.cell? ⟨g, p * 34 + 32, none⟩ = some (.bool (d.nd p).isSome) := fun w' hc => by rw [hc.cell (p := ⟨g, p * 34 + 32, none⟩) hat.lt (by simp)]; exact hat.live
    have dn : decide (p < d.ns.length) = true := by simpa using hp
    rw [hA] at hc
    rw [dn] at hth
    have hgl := hat.lt
    clear h hat e1 hA dn
    generalize (d.nd p).isSome = X at *
    go_enter Try.func72, Try.ntmps72
    go_wp2_with (go_at_call 75; refine hth.mono ?_; rintro e w1 ⟨rfl, hc1⟩; have hr1 := hc w1 hc1; have hr2 := hatW w1 hc1; clear hc hatW)
    go_ret
    exact ⟨rfl, hc1⟩
  · have e1 := d.nd_ge hp
    have dn : decide (p < d.ns.length) = false := by simpa using hp
    rw [dn] at hth
    rw [e1]
    clear h hc dn e1
    go_enter Try.func72, Try.ntmps72
    go_wp2_with (go_at_call 75; refine hth.mono ?_; rintro e w1 ⟨rfl, hc1⟩)
    go_ret
    exact ⟨rfl, hc1⟩
theorem rpins_calls (b p : Nat) (d : DS) (w : World) (h : DIs w b d) : Calls Try.prog 74 #[.pointer (some ⟨b, 0, none⟩), .int .u64 p] w (Res w [] (.int .i64 (dnK (d.nd p)))) := by
  have hb := h.blt
  have hth := rthere_calls b p d w h
  have hc : ∀ w', Chg [] w w' → w'.cell? ⟨b, 1, none⟩ = some (.slice d.A d.ns.length d.cap) := fun w' hc => (h.chg0 hc).c1
  by_cases hp : p < d.ns.length
  · obtain ⟨g, hA, hne, hat⟩ := h.at hp
    have e1 := d.nd_lt hp
    rw [← e1] at hat
    have hatW : ∀ w', Chg [] w w' → w'.cell? ⟨g, p * 34 + 33, none⟩ = some (.int .i64 (dnK (d.nd p))) := fun w' hc => by rw [hc.cell (p := ⟨g, p * 34 + 33, none⟩) hat.lt (by simp)]; exact hat.pins
    have dn : decide (p < d.ns.length) = true := by simpa using hp
    rw [hA] at hc
    rw [dn] at hth
    have hgl := hat.lt
    clear h hat e1 hA dn
    generalize dnK (d.nd p) = X at *
    go_enter Try.func74, Try.ntmps74
    go_wp2_with (go_at_call 75; refine hth.mono ?_; rintro e w1 ⟨rfl, hc1⟩; have hr1 := hc w1 hc1; have hr2 := hatW w1 hc1; clear hc hatW)
    go_ret
    exact ⟨rfl, hc1⟩
  · have e1 := d.nd_ge hp
    have dn : decide (p < d.ns.length) = false := by simpa using hp
    rw [dn] at hth
    rw [e1]
    clear h hc dn e1
    go_enter Try.func74, Try.ntmps74
    go_wp2_with (go_at_call 75; refine hth.mono ?_; rintro e w1 ⟨rfl, hc1⟩)
    go_ret
    exact ⟨rfl, hc1⟩
theorem rnew_bad (l : Int) (w : World) (h : l < 0 ∨ 16 < l) : Calls Try.prog 36 #[.int .i64 l] w (Res w [] (.tuple #[.pointer none, .int .i64 1])) := by
  by_cases h0 : l < 0
  · go_enter Try.func36, Try.ntmps36
    go_wp2
    go_ret2
    exact ⟨rfl, Chg.refl _ _⟩
  · have h1 : 16 < l := by omega
    go_enter Try.func36, Try.ntmps36
    go_wp2
    go_ret2
    exact ⟨rfl, Chg.refl _ _⟩
def RNewP (w : World) (l : Nat) (e : Ending) (w' : World) : Prop :=
  ∃ b d, e = .returned (.tuple #[.pointer (some ⟨b, 0, none⟩), .int .i64 0]) ∧ DIs w' b d ∧ Chg [] w w' ∧ (∀ k ∈ d.foot b, w.heap.size ≤ k) ∧ d.log = l ∧ d.ns = []
theorem rnew_ok (l : Nat) (w : World) (h : l ≤ 16) : Calls Try.prog 36 #[.int .i64 l] w (RNewP w l) := by
  go_enter Try.func36, Try.ntmps36
  go_wp2
  go_ret2
  refine ⟨_, ⟨l, none, 0, []⟩, rfl, ⟨blk_new w _, ⟨rfl, .inl ⟨rfl, rfl⟩⟩, by simp [DS.sl, ob, Value.ownBlock], by simp, h, by simp⟩, (Chg.refl _ _).alloc _, ?_, rfl, rfl⟩
  intro k hk
  simp [DS.foot, DS.sl, ob, Value.ownBlock] at hk
  omega
end Go.Proofs.Ytonppfebmeehcaa

/- The document's store: Pin, Unpin, Drop, Back. -/
namespace Go.Proofs.Ytonppfebmeehcaa
open Go.RowKit
set_option linter.unusedVariables false
set_option linter.unusedSimpArgs false

/-- What a call leaves that changes the nodes. -/
def DP (w : World) (b : Nat) (d : DS) (ns : List DN) (v : Value) (e : Ending) (w' : World) : Prop := e = .returned v ∧ ∃ d', DIs w' b d' ∧ d'.ns = ns ∧ d'.log = d.log ∧ Mv (d.foot b) (d'.foot b) w w'
theorem DIs.keep {w w' : World} {b : Nat} {d : DS} {v : Value} (h : DIs w b d) (hc : Chg [] w w') : DP w b d d.ns v (.returned v) w' := ⟨rfl, d, h.chg0 hc, rfl, rfl, hc.of_nil, fun k hk => .inl hk⟩
theorem DIs.keep2 {w w' : World} {b : Nat} {d : DS} {v : Value} {ns : List DN} (h : DIs w b d) (hc : Chg [] w w') (e : ns = d.ns) : DP w b d ns v (.returned v) w' := by
  subst e; exact h.keep hc
theorem DIs.done {w w1 w' : World} {b g : Nat} {d : DS} {ns : List DN} {v : Value} (h : DIs w b d) (hA : d.A = some ⟨g, 0, none⟩) (h1 : Chg [] w w1) (h2 : Chg [g] w1 w') (h3 : DIs w' b { d with ns := ns }) : DP w b d ns v (.returned v) w' := by
  have hg : g ∈ d.foot b := by simp [DS.foot, DS.sl, hA, ob, Value.ownBlock]
  refine ⟨rfl, _, h3, rfl, rfl, (h1.of_nil).trans h2 (fun x hx => .inl (by simp at hx; subst hx; exact hg)), fun k hk => .inl ?_⟩
  simpa [DS.foot, DS.sl, ob, hA, Value.ownBlock] using hk
theorem DAt.chg0 {w w' : World} {g i : Nat} {x : DN} (h : DAt w g i x) (hc : Chg [] w w') : DAt w' g i x :=
  ⟨rng?_chg hc h.hash (by omega) (by simp), by rw [hc.cell (p := ⟨g, i * 34 + 32, none⟩) h.lt (by simp)]; exact h.live, by rw [hc.cell (p := ⟨g, i * 34 + 33, none⟩) h.lt (by simp)]; exact h.pins, may_chg hc h.may (by omega) (by simp), by rw [hc.frozen (p := ⟨g, i * 34 + 33, none⟩) h.lt (by simp)]; exact h.fz, Nat.lt_of_lt_of_le h.lt hc.size⟩
theorem rnIs {x : DN} (h : dnOk x) : IsHash (dnH x) := h.is.1
theorem DIs.ndOk {w : World} {b : Nat} {d : DS} (h : DIs w b d) (p : Nat) : dnOk (d.nd p) := by
  by_cases hp : p < d.ns.length
  · rw [d.nd_lt hp]; exact h.ok _ (List.getElem_mem hp)
  · rw [d.nd_ge hp]; intro _ _ e; cases e
theorem DIs.getOk {w : World} {b : Nat} {d : DS} (h : DIs w b d) (p : Nat) : IsHash (dnH (d.nd p)) := (h.ndOk p).is.1
def dPin (ns : List DN) (p : Nat) : List DN := match (ns[p]?).join with | some (h, k) => ns.set p (some (h, k + 1)) | none => ns
theorem rpin_calls (b p : Nat) (d : DS) (w : World) (h : DIs w b d) (hk : dnK (d.nd p) < 4294967296) :
    Calls Try.prog 52 #[.pointer (some ⟨b, 0, none⟩), .int .u64 p] w (DP w b d (dPin d.ns p) (.int .i64 (d.getE p))) := by
  have hb := h.blt
  have hget := rget_calls b p d w h
  have hg := h.getOk p
  have hs1 := hg.1
  have hs2 := hg.one
  clear hg
  cases hn : d.nd p with
  | none =>
    have hE : (d.getE p == 0) = false := by unfold DS.getE; split <;> simp [hn]
    have e1 : dPin d.ns p = d.ns := by unfold dPin; rw [show (d.ns[p]?).join = none from hn]
    rw [e1]
    rw [hn] at hget hs1 hs2
    clear e1 hk
    generalize d.getE p = E at *
    go_enter Try.func52, Try.ntmps52
    go_wp2_with (go_at_call 71; refine hget.mono ?_; rintro e w1 ⟨rfl, hc⟩)
    go_ret
    exact h.keep (hc.alloc _)
  | some y =>
    obtain ⟨H, k⟩ := y
    have hp : p < d.ns.length := by
      by_cases hp : p < d.ns.length
      · exact hp
      · rw [d.nd_ge hp] at hn; cases hn
    obtain ⟨g, hA, hne, hat⟩ := h.at hp
    rw [← d.nd_lt hp, hn] at hat
    have hi : d.ns[p] = some (H, k) := by rw [← d.nd_lt hp]; exact hn
    have hE : d.getE p = 0 := by unfold DS.getE; rw [if_pos hp, hn]; rfl
    have e1 : Hid (dPin d.ns p = d.ns.set p (some (H, k + 1))) := by unfold Hid dPin; rw [show (d.ns[p]?).join = some (H, k) from hn]
    rw [hE]
    rw [hE, hn] at hget
    rw [hn] at hs1 hs2 hk
    simp only [show dnH (some (H, k)) = H from rfl] at hget hs1 hs2
    have hk : k < 4294967296 := hk
    have hW : ∀ w1, Chg [] w w1 → w1.cell? ⟨b, 1, none⟩ = some (.slice (some ⟨g, 0, none⟩) d.ns.length d.cap) ∧ w1.cell? ⟨g, p * 34 + 33, none⟩ = some (.int .i64 k) ∧ w1.frozen? ⟨g, p * 34 + 33, none⟩ = false ∧ g < w1.heap.size ∧ DIs (w1.setCell ⟨g, p * 34 + 33, none⟩ (.int .i64 (k + 1 : Nat))) b { d with ns := d.ns.set p (some (H, k + 1)) } := fun w1 hc => by
      have h' := h.chg0 hc
      have := h'.c1
      rw [hA] at this
      have hat' := hat.chg0 hc
      exact ⟨this, hat'.pins, hat'.fz, hat'.lt, h'.put_pins hp hA hi (by omega)⟩
    have HD := Lib.hid hA
    have HH := Lib.hid h
    clear h hat hn hi hE hA
    generalize hN : d.ns.length = N at *
    have HN := Lib.hid hN
    clear hN
    go_enter Try.func52, Try.ntmps52
    go_wp2_with (go_at_call 71; refine hget.mono ?_; rintro e w1 ⟨rfl, hc⟩; obtain ⟨q1, q2, q3, q4, q5⟩ := hW _ (hc.alloc (.cells H 30)); clear hW)
    go_region
    go_wp2
    go_ret
    rw [e1.out]
    exact HH.out.done HD.out (hc.alloc _) (((Chg.refl _ _).setCell (by simp) _).drew) (q5.chg0 ((Chg.refl _ _).drew))
def dUnE (ns : List DN) (p : Nat) : Int := if p < ns.length then (if dnK ((ns[p]?).join) = 0 then 52 else 0) else 31
def dUn (ns : List DN) (p : Nat) : List DN := match (ns[p]?).join with | some (h, k) => if k = 0 then ns else ns.set p (some (h, k - 1)) | none => ns
theorem runpin_calls (b p : Nat) (d : DS) (w : World) (h : DIs w b d) :
    Calls Try.prog 54 #[.pointer (some ⟨b, 0, none⟩), .int .u64 p] w (DP w b d (dUn d.ns p) (.int .i64 (dUnE d.ns p))) := by
  have hb := h.blt
  by_cases hp : p < d.ns.length
  · obtain ⟨g, hA, hne, hat⟩ := h.at hp
    have hth := rthere_calls b p d w h
    have hW : ∀ w1, Chg [] w w1 → w1.cell? ⟨b, 1, none⟩ = some (.slice (some ⟨g, 0, none⟩) d.ns.length d.cap) ∧ DAt w1 g p d.ns[p] ∧ DIs w1 b d := fun w1 hc => by
      have h' := h.chg0 hc
      have := h'.c1
      rw [hA] at this
      exact ⟨this, hat.chg0 hc, h'⟩
    have hgl := hat.lt
    have HD := Lib.hid hA
    have HH := Lib.hid h
    have dn : decide (p < d.ns.length) = true := by simpa using hp
    rw [dn] at hth
    have hnd : (d.ns[p]?).join = d.ns[p] := d.nd_lt hp
    by_cases hk0 : dnK d.ns[p] = 0
    · have e1 : Hid (dUnE d.ns p = 52) := by unfold Hid dUnE; rw [if_pos hp, hnd, if_pos hk0]
      have e2 : Hid (dUn d.ns p = d.ns) := by
        unfold Hid dUn
        rw [hnd]
        cases hx : d.ns[p] with
        | none => rfl
        | some y => rw [hx] at hk0; exact if_pos hk0
      rw [e1.out, e2.out]
      have hW2 : ∀ w1, Chg [] w w1 → w1.cell? ⟨b, 1, none⟩ = some (.slice (some ⟨g, 0, none⟩) d.ns.length d.cap) ∧ w1.cell? ⟨g, p * 34 + 33, none⟩ = some (.int .i64 0) := fun w1 hc => by
        have := (hW w1 hc).2.1.pins
        rw [hk0] at this
        exact ⟨(hW w1 hc).1, this⟩
      clear h hat hA hW hnd hk0 dn e1 e2
      go_enter Try.func54, Try.ntmps54
      go_wp2_with (go_at_call 75; refine hth.mono ?_; rintro e w1 ⟨rfl, hc⟩; obtain ⟨q1, q2⟩ := hW2 _ hc; clear hW2)
      go_ret
      exact HH.out.keep hc
    · have hk1 := hk0
      clear hk0
      cases hx : d.ns[p] with
      | none => rw [hx] at hk1; exact absurd rfl hk1
      | some y =>
        obtain ⟨H, k⟩ := y
        have hk0 : k ≠ 0 := by rw [hx] at hk1; exact hk1
        clear hk1
        have hkk : k < 4611686018427387904 := by
          have := (h.ok _ (List.getElem_mem hp)).is.2
          rw [hx] at this
          exact this
        have e1 : Hid (dUnE d.ns p = 0) := by unfold Hid dUnE; rw [if_pos hp, hnd, hx]; exact if_neg hk0
        have e2 : Hid (dUn d.ns p = d.ns.set p (some (H, k - 1))) := by
          unfold Hid dUn
          rw [hnd, hx]
          simp only
          rw [if_neg hk0]
        rw [e1.out]
        have d0 : ((k : Int) == 0) = false := by simp; omega
        have d1 : ((k : Int) - 1) = ((k - 1 : Nat) : Int) := by omega
        have hW2 : ∀ w1, Chg [] w w1 → w1.cell? ⟨b, 1, none⟩ = some (.slice (some ⟨g, 0, none⟩) d.ns.length d.cap) ∧ w1.cell? ⟨g, p * 34 + 33, none⟩ = some (.int .i64 k) ∧ w1.frozen? ⟨g, p * 34 + 33, none⟩ = false ∧ g < w1.heap.size ∧ DIs (w1.setCell ⟨g, p * 34 + 33, none⟩ (.int .i64 ((k : Int) - 1))) b { d with ns := d.ns.set p (some (H, k - 1)) } := fun w1 hc => by
          obtain ⟨a1, a2, a3⟩ := hW w1 hc
          have := a2.pins
          rw [hx] at this
          refine ⟨a1, this, a2.fz, a2.lt, ?_⟩
          rw [d1]
          exact a3.put_pins hp HD.out hx (by omega)
        clear h hat hA hW hnd dn e1 hx d1
        generalize hN : d.ns.length = N at *
        have HN := Lib.hid hN
        clear hN
        go_enter Try.func54, Try.ntmps54
        go_wp2_with (go_at_call 75; refine hth.mono ?_; rintro e w1 ⟨rfl, hc⟩; obtain ⟨q1, q2, q3, q4, q5⟩ := hW2 _ hc; clear hW2)
        go_region
        go_wp2
        go_ret
        rw [e2.out]
        exact HH.out.done HD.out hc (((Chg.refl _ _).setCell (by simp) _).drew) (q5.chg0 ((Chg.refl _ _).drew))
  · skip
    have hth := rthere_calls b p d w h
    have dn : decide (p < d.ns.length) = false := by simpa using hp
    rw [dn] at hth
    clear dn
    have e1 : Hid (dUnE d.ns p = 31) := by unfold Hid dUnE; rw [if_neg hp]
    have e2 : Hid (dUn d.ns p = d.ns) := by unfold Hid dUn; rw [show (d.ns[p]?).join = none from d.nd_ge hp]
    rw [e1.out, e2.out]
    have HH := Lib.hid h
    clear h e1 e2
    go_enter Try.func54, Try.ntmps54
    go_wp2_with (go_at_call 75; refine hth.mono ?_; rintro e w1 ⟨rfl, hc⟩)
    go_ret
    exact HH.out.keep hc
def dDropE (ns : List DN) (p : Nat) : Int := if p < ns.length then (if 0 < dnK ((ns[p]?).join) then 51 else 0) else 31
def dDrop (ns : List DN) (p : Nat) : List DN := if 0 < dnK ((ns[p]?).join) then ns else ns.set p none
theorem rdrop_calls (b p : Nat) (d : DS) (w : World) (h : DIs w b d) :
    Calls Try.prog 55 #[.pointer (some ⟨b, 0, none⟩), .int .u64 p] w (DP w b d (dDrop d.ns p) (.int .i64 (dDropE d.ns p))) := by
  have hb := h.blt
  by_cases hp : p < d.ns.length
  · obtain ⟨g, hA, hne, hat⟩ := h.at hp
    have hth := rthere_calls b p d w h
    have hW : ∀ w1, Chg [] w w1 → w1.cell? ⟨b, 1, none⟩ = some (.slice (some ⟨g, 0, none⟩) d.ns.length d.cap) ∧ DAt w1 g p d.ns[p] ∧ DIs w1 b d := fun w1 hc => by
      have h' := h.chg0 hc
      have := h'.c1
      rw [hA] at this
      exact ⟨this, hat.chg0 hc, h'⟩
    have hgl := hat.lt
    have HD := Lib.hid hA
    have HH := Lib.hid h
    have dn : decide (p < d.ns.length) = true := by simpa using hp
    rw [dn] at hth
    have hnd : (d.ns[p]?).join = d.ns[p] := d.nd_lt hp
    by_cases hk0 : 0 < dnK d.ns[p]
    · have e1 : Hid (dDropE d.ns p = 51) := by unfold Hid dDropE; rw [if_pos hp, hnd, if_pos hk0]
      have e2 : Hid (dDrop d.ns p = d.ns) := by unfold Hid dDrop; rw [hnd, if_pos hk0]
      rw [e1.out, e2.out]
      have hW2 : ∀ w1, Chg [] w w1 → w1.cell? ⟨b, 1, none⟩ = some (.slice (some ⟨g, 0, none⟩) d.ns.length d.cap) ∧ w1.cell? ⟨g, p * 34 + 33, none⟩ = some (.int .i64 (dnK d.ns[p])) := fun w1 hc => ⟨(hW w1 hc).1, (hW w1 hc).2.1.pins⟩
      generalize dnK d.ns[p] = k at *
      clear h hat hA hW hnd dn e1 e2
      go_enter Try.func55, Try.ntmps55
      go_wp2_with (go_at_call 75; refine hth.mono ?_; rintro e w1 ⟨rfl, hc⟩; obtain ⟨q1, q2⟩ := hW2 _ hc; clear hW2)
      go_ret
      exact HH.out.keep hc
    · have e1 : Hid (dDropE d.ns p = 0) := by unfold Hid dDropE; rw [if_pos hp, hnd, if_neg hk0]
      have e2 : Hid (dDrop d.ns p = d.ns.set p none) := by unfold Hid dDrop; rw [hnd, if_neg hk0]
      rw [e1.out]
      have hk1 : dnK d.ns[p] = 0 := by omega
      have hW2 : ∀ w1, Chg [] w w1 → w1.cell? ⟨b, 1, none⟩ = some (.slice (some ⟨g, 0, none⟩) d.ns.length d.cap) ∧ w1.cell? ⟨g, p * 34 + 33, none⟩ = some (.int .i64 0) ∧ may w1 g (p * 34) 34 = true ∧ g < w1.heap.size ∧ DIs (setRng w1 g (p * 34) (rnOf zeroHash false 0)) b { d with ns := d.ns.set p none } := fun w1 hc => by
        obtain ⟨a1, a2, a3⟩ := hW w1 hc
        have := a2.pins
        rw [hk1] at this
        exact ⟨a1, this, a2.may, a2.lt, a3.put_node (x := none) hp HD.out (by intro _ _ e; cases e)⟩
      clear h hat hA hW hnd dn e1 hk1 hk0
      generalize hN : d.ns.length = N at *
      have HN := Lib.hid hN
      clear hN
      go_enter Try.func55, Try.ntmps55
      go_wp2_with (go_at_call 75; refine hth.mono ?_; rintro e w1 ⟨rfl, hc⟩; obtain ⟨q1, q2, q3, q4, q5⟩ := hW2 _ hc; clear hW2)
      go_ret
      rw [e2.out]
      exact HH.out.done HD.out hc (setRng_chg _ _ _ _) q5
  · skip
    have hth := rthere_calls b p d w h
    have dn : decide (p < d.ns.length) = false := by simpa using hp
    rw [dn] at hth
    clear dn
    have e1 : Hid (dDropE d.ns p = 31) := by unfold Hid dDropE; rw [if_neg hp]
    have e2 : Hid (dDrop d.ns p = d.ns) := by unfold Hid dDrop; rw [show (d.ns[p]?).join = none from d.nd_ge hp, if_neg (by simp [dnK]), List.set_eq_of_length_le (by omega)]
    rw [e1.out, e2.out]
    have HH := Lib.hid h
    clear h e1 e2
    go_enter Try.func55, Try.ntmps55
    go_wp2_with (go_at_call 75; refine hth.mono ?_; rintro e w1 ⟨rfl, hc⟩)
    go_ret
    exact HH.out.keep hc
end Go.Proofs.Ytonppfebmeehcaa

/- The document's store: Back, Push. -/
namespace Go.Proofs.Ytonppfebmeehcaa
open Go.RowKit
set_option linter.unusedVariables false
set_option linter.unusedSimpArgs false

def dBackE (ns : List DN) (p : Nat) : Int := if p < ns.length then (if ((ns[p]?).join).isSome then 53 else 0) else 31
def dBack (ns : List DN) (p : Nat) (h : Array Value) : List DN := if ((ns[p]?).join).isSome then ns else ns.set p (some (h, 0))
theorem rback_calls (b p : Nat) (d : DS) (H : Array Value) (w : World) (h : DIs w b d) (hH : IsHash H) :
    Calls Try.prog 58 #[.pointer (some ⟨b, 0, none⟩), .int .u64 p, .agg H] w (DP w b d (dBack d.ns p H) (.int .i64 (dBackE d.ns p))) := by
  have hb := h.blt
  have hs1 := hH.1
  have hs2 := hH.one
  have hc0 : Chg [] w (w.alloc (.cells H 30)) := (Chg.refl _ _).alloc _
  have hth := rthere_calls b p d _ (h.chg0 hc0)
  have hbox : ∀ w1, Chg [] (w.alloc (.cells H 30)) w1 → rng? w1 w.heap.size 0 32 = some H := fun w1 hc => rng?_chg hc (rng?_row (blk_new w (.cells H 30)) hs1) (by omega) (by simp)
  by_cases hp : p < d.ns.length
  · obtain ⟨g, hA, hne, hat⟩ := h.at hp
    have hW : ∀ w1, Chg [] w w1 → w1.cell? ⟨b, 1, none⟩ = some (.slice (some ⟨g, 0, none⟩) d.ns.length d.cap) ∧ DAt w1 g p d.ns[p] ∧ DIs w1 b d := fun w1 hc => by
      have h' := h.chg0 hc
      have := h'.c1
      rw [hA] at this
      exact ⟨this, hat.chg0 hc, h'⟩
    have hgl := hat.lt
    have HD := Lib.hid hA
    have HH := Lib.hid h
    have dn : decide (p < d.ns.length) = true := by simpa using hp
    rw [dn] at hth
    have hnd : (d.ns[p]?).join = d.ns[p] := d.nd_lt hp
    by_cases hlv : (d.ns[p]).isSome = true
    · have e1 : Hid (dBackE d.ns p = 53) := by unfold Hid dBackE; rw [if_pos hp, hnd, if_pos hlv]
      have e2 : Hid (dBack d.ns p H = d.ns) := by unfold Hid dBack; rw [hnd, if_pos hlv]
      rw [e1.out]
      have hW2 : ∀ w1, Chg [] w w1 → w1.cell? ⟨b, 1, none⟩ = some (.slice (some ⟨g, 0, none⟩) d.ns.length d.cap) ∧ w1.cell? ⟨g, p * 34 + 32, none⟩ = some (.bool true) := fun w1 hc => ⟨(hW w1 hc).1, by rw [← hlv]; exact (hW w1 hc).2.1.live⟩
      clear h hat hA hW hnd dn e1 hlv
      go_enter Try.func58, Try.ntmps58
      go_wp2_with (go_at_call 75; refine hth.mono ?_; rintro e w1 ⟨rfl, hc⟩; obtain ⟨q1, q2⟩ := hW2 _ (hc0.nil_trans hc); clear hW2)
      go_ret
      exact HH.out.keep2 (hc0.nil_trans hc) e2.out
    · have e1 : Hid (dBackE d.ns p = 0) := by unfold Hid dBackE; rw [if_pos hp, hnd, if_neg hlv]
      have e2 : Hid (dBack d.ns p H = d.ns.set p (some (H, 0))) := by unfold Hid dBack; rw [hnd, if_neg hlv]
      rw [e1.out]
      have hlv2 : (d.ns[p]).isSome = false := by simpa using hlv
      have hW2 : ∀ w1, Chg [] w w1 → w1.cell? ⟨b, 1, none⟩ = some (.slice (some ⟨g, 0, none⟩) d.ns.length d.cap) ∧ w1.cell? ⟨g, p * 34 + 32, none⟩ = some (.bool false) ∧ may w1 g (p * 34) 34 = true ∧ g < w1.heap.size ∧ DIs (setRng w1 g (p * 34) (rnOf H true 0)) b { d with ns := d.ns.set p (some (H, 0)) } := fun w1 hc => by
        obtain ⟨a1, a2, a3⟩ := hW w1 hc
        have := a2.live
        rw [hlv2] at this
        exact ⟨a1, this, a2.may, a2.lt, a3.put_node (x := some (H, 0)) hp HD.out (by intro _ _ e; cases e; exact ⟨hH, by omega⟩)⟩
      clear h hat hA hW hnd dn e1 hlv hlv2
      generalize hN : d.ns.length = N at *
      have HN := Lib.hid hN
      clear hN
      go_enter Try.func58, Try.ntmps58
      go_wp2_with (go_at_call 75; refine hth.mono ?_; rintro e w1 ⟨rfl, hc⟩; obtain ⟨q1, q2, q3, q4, q5⟩ := hW2 _ (hc0.nil_trans hc); have q6 := hbox _ hc; have q7 : w.heap.size < w1.heap.size := (by have := hc.size; simp at this; omega); clear hW2 hbox)
      go_region
      go_wp2
      go_ret
      rw [e2.out]
      exact HH.out.done HD.out (hc0.nil_trans hc) ((setRng_chg _ _ _ _).drew) (q5.chg0 ((Chg.refl _ _).drew))
  · have dn : decide (p < d.ns.length) = false := by simpa using hp
    rw [dn] at hth
    clear dn
    have e1 : Hid (dBackE d.ns p = 31) := by unfold Hid dBackE; rw [if_neg hp]
    have e2 : Hid (dBack d.ns p H = d.ns) := by unfold Hid dBack; rw [show (d.ns[p]?).join = none from d.nd_ge hp, if_neg (by simp), List.set_eq_of_length_le (by omega)]
    rw [e1.out]
    have HH := Lib.hid h
    clear h e1
    go_enter Try.func58, Try.ntmps58
    go_wp2_with (go_at_call 75; refine hth.mono ?_; rintro e w1 ⟨rfl, hc⟩)
    go_ret
    exact HH.out.keep2 (hc0.nil_trans hc) e2.out

def apZ (ts : Array TypeId) (ty : TypeId) (xs : Array Value) : Sem Value := Builtin.append_ ts ty xs
theorem hold_apZ (ts : Array TypeId) (ty : TypeId) (xs : Array Value) : Builtin.append_ ts ty xs = apZ ts ty xs := rfl
attribute [local go_sem ↓] hold_apZ
theorem DIs.grow {w : World} {b : Nat} {d : DS} (h : DIs w b d) (H : Array Value) (hH : IsHash H) (hl : d.ns.length < 4294967296) :
    ∃ A cap w', (apZ #[89, 89] 89 #[.slice d.A d.ns.length d.cap, .slice (some ⟨w.heap.size, 0, none⟩) 1 1]).run Try.prog (w.alloc (.cells (rnOf H true 0) 114)) = .ok (.slice A (d.ns.length + 1) cap) w' ∧
      LRow w' 114 34 (.slice A (d.ns.length + 1) cap) (d.ns.length + 1) (dnF (d.ns ++ [some (H, 0)])) ∧ Chg (ob d.sl) w w' ∧ (∀ k ∈ ob (.slice A (d.ns.length + 1) cap), k ∈ ob d.sl ∨ w.heap.size ≤ k) := by
  obtain ⟨i, hi, hz, hsz, hby⟩ := infoOf i_rnode
  have hc : Chg [] w (w.alloc (.cells (rnOf H true 0) 114)) := (Chg.refl _ _).alloc _
  obtain ⟨v', w', hr, h2, h3, h4⟩ := (h.row.chg hc (by simp)).append (P := Try.prog) (t := 89) (ty := 89) (i := i) (z := .agg (rnOf zeroHash false 0)) (bytes := 48) u_rnodes hi hz hsz hby (rnOf_size zeroHash_size _ _) (by decide) w.heap.size 1 1 (by decide) (rnOf H true 0).toList
    (by rw [Array.length_toList, rnOf_size hH.1]) (fun j u hu => blk_cell (blk_new w _) j (by simpa using hu)) (fun u hu => by
      have := rnOf_one hH.one true 0
      unfold one1 at this
      rw [Array.all_eq_true_iff_forall_mem] at this
      exact this u (by simpa using hu)) (by unfold maxLen; omega) (by omega)
  have hform : ∃ A cap, v' = .slice A (d.ns.length + 1) cap := by
    rcases h2.2 with ⟨_, q⟩ | ⟨g, cap, cur, rfl, _⟩
    · omega
    · exact ⟨_, _, rfl⟩
  obtain ⟨A, cap, rfl⟩ := hform
  refine ⟨A, cap, w', hr, ?_, hc.of_nil.trans h3 (fun k hk => .inl hk), fun k hk => ?_⟩
  · have : dnF (d.ns ++ [some (H, 0)]) = dnF d.ns ++ (rnOf H true 0).toList := by rw [dnF_append]; simp [dnF, dnC, dnH, dnK]
    rw [this]
    exact h2
  · rcases h4 k hk with q | q
    · exact .inl q
    · right; have := hc.size; omega
theorem rpush_calls (b : Nat) (d : DS) (H : Array Value) (w : World) (h : DIs w b d) (hH : IsHash H) (hl : d.ns.length < 4294967296) :
    Calls Try.prog 50 #[.pointer (some ⟨b, 0, none⟩), .agg H] w (DP w b d (d.ns ++ [some (H, 0)]) (.int .u64 d.ns.length)) := by
  obtain ⟨w0, rfl⟩ : ∃ w0 : World, w0 = w := ⟨_, rfl⟩
  have hb := h.blt
  have hs1 := hH.1
  have hs2 := hH.one
  have hc0 : Chg [] w0 (w0.alloc (.cells H 30)) := (Chg.refl _ _).alloc _
  have hc1 : Chg [] w0 (w0.alloc (.cells H 30)).drew := hc0.drew
  have h1 := h.chg0 hc1
  obtain ⟨A, cap, w2, hr, hrow, hc2, hf2⟩ := h1.grow H hH hl
  have hrun : (apZ #[89, 89] 89 #[.slice d.A d.ns.length d.cap, .slice (some ⟨(w0.alloc (.cells H 30)).heap.size, 0, none⟩) 1 1]).run Try.prog (((w0.alloc (.cells H 30)).alloc (.cells (rnOf H true 0) 114)).drew) = .ok (.slice A (d.ns.length + 1) cap) w2 := hr
  rw [World.size_alloc] at hrun
  have c1 : w0.cell? ⟨b, 1, none⟩ = some (.slice d.A d.ns.length d.cap) := h.c1
  have hd2 : w2.heap[b]? = some (.cells #[.int .i64 d.log, .slice d.A d.ns.length d.cap] 91 (0, 0)) := hc2.at h1.head h.apart
  have d1 : w2.cell? ⟨b, 1, none⟩ = some (.slice d.A d.ns.length d.cap) := blk_cell hd2 1 rfl
  have d2 : w2.frozen? ⟨b, 1, none⟩ = false := blk_frozen hd2 1
  have d3 : b < w2.heap.size := blk_lt hd2
  have d4 := blk_set hd2 1 (.slice A (d.ns.length + 1) cap)
  have hfin : DIs (w2.setCell ⟨b, 1, none⟩ (.slice A (d.ns.length + 1) cap)) b ⟨d.log, A, cap, d.ns ++ [some (H, 0)]⟩ := by
    have hba : b ∉ ob (.slice A (d.ns.length + 1) cap) := fun hk => by
      rcases hf2 b hk with q | q
      · exact h.apart q
      · have := h1.blt; omega
    refine ⟨by simpa using d4, ?_, by simpa [DS.sl, ob, Value.ownBlock] using hba, fun x hx => ?_, h.log, by simp; omega⟩
    · have := hrow.chg ((Chg.refl [b] w2).setCell (p := ⟨b, 1, none⟩) (.inl (by simp)) (.slice A (d.ns.length + 1) cap)) (fun k hk => by
        simp
        rintro rfl
        exact hba hk)
      simpa using this
    · rcases List.mem_append.1 hx with q | q
      · exact h.ok x q
      · simp at q; subst q; intro _ _ e; cases e; exact ⟨hH, by omega⟩
  have hmv : Mv (d.foot b) (DS.foot ⟨d.log, A, cap, d.ns ++ [some (H, 0)]⟩ b) w0 (w2.setCell ⟨b, 1, none⟩ (.slice A (d.ns.length + 1) cap)) := by
    refine ⟨((hc1.of_nil).trans (hc2.mono (G := d.foot b) (fun x hx _ => by simp only [DS.foot, List.mem_cons]; exact .inr hx)) (fun x hx => .inl hx)).setCell (.inl (by simp [DS.foot])) _, fun k hk => ?_⟩
    simp only [DS.foot, List.mem_cons] at hk
    rcases hk with rfl | hk
    · exact .inl (by simp [DS.foot])
    · rcases hf2 k (by simpa [DS.sl, ob, Value.ownBlock] using hk) with q | q
      · exact .inl (by simp only [DS.foot, List.mem_cons]; exact .inr q)
      · exact .inr (by have := hc1.size; omega)
  have HF := Lib.hid hfin
  have HM := Lib.hid hmv
  clear hfin hmv d4 hf2 hc2 hrow hd2 h1 hr h
  generalize hN : d.ns.length = N at *
  have HN := Lib.hid hN
  clear hN
  have d5 : (w2.setCell ⟨b, 1, none⟩ (.slice A (N + 1) cap)).cell? ⟨b, 1, none⟩ = some (.slice A (N + 1) cap) := by go_simp
  go_enter Try.func50, Try.ntmps50
  go_wp2
  go_region
  go_wp2
  go_ret
  refine ⟨?_, _, HF.out, rfl, rfl, HM.out⟩
  simp
end Go.Proofs.Ytonppfebmeehcaa

/- The document's store: Alive, Chunks, Places. -/
namespace Go.Proofs.Ytonppfebmeehcaa
open Go.RowKit
set_option linter.unusedVariables false
set_option linter.unusedSimpArgs false

def dLive (ns : List DN) (n : Nat) : Nat := (ns.take n).countP (·.isSome)
theorem dLive_succ {ns : List DN} {n : Nat} (h : n < ns.length) : dLive ns (n + 1) = dLive ns n + (if ns[n].isSome then 1 else 0) := by
  unfold dLive
  rw [List.take_succ_eq_append_getElem h, List.countP_append]
  simp [List.countP_cons]
theorem dLive_le (ns : List DN) (n : Nat) : dLive ns n ≤ ns.length := by
  unfold dLive
  exact Nat.le_trans List.countP_le_length (by simp; omega)
set_option maxRecDepth 100000 in
theorem ralive_calls (b : Nat) (d : DS) (w : World) (h : DIs w b d) : Calls Try.prog 76 #[.pointer (some ⟨b, 0, none⟩)] w (Res w [] (.int .u64 (d.ns.countP (·.isSome) : Nat))) := by
  have hb := h.blt
  have hl := h.len
  have hc := h.c1
  have hat := fun k (hk : k < d.ns.length) => h.at hk
  have hs := fun k (hk : k < d.ns.length) => dLive_succ hk
  have hle := dLive_le d.ns
  have hN : d.ns.countP (·.isSome) = dLive d.ns d.ns.length := by unfold dLive; rw [List.take_length]
  rw [hN]
  clear hN h
  have h0 : dLive d.ns 0 = 0 := rfl
  go_enter Try.func76, Try.ntmps76
  go_wp2_with fail
  go_loopg [3, 4] d.ns.length (fun m a i wr => ∃ k, k ≤ d.ns.length ∧ m = d.ns.length - k ∧ a = .int .u64 (dLive d.ns k : Nat) ∧ i = .int .i64 (k : Nat) ∧ wr = w)
  case atStart => exact ⟨0, Nat.zero_le _, by omega, rfl, rfl, rfl⟩
  case round =>
    obtain ⟨k, hk, hgk, rfl, rfl, rfl⟩ := hrel
    by_cases hlt : k < d.ns.length
    · obtain ⟨g, hA, hne, ht⟩ := hat k hlt
      have hs' := hs k hlt
      have hlk := hle k
      have h1 := ht.live
      have hgl := ht.lt
      rw [hA] at hc
      cases hx : d.ns[k].isSome with
      | true =>
        rw [hx] at hs' h1
        have HS := Lib.hid hs'
        clear hs' hx ht hs hle hat hA h0
        go_wp2
        go_roundg (d.ns.length - (k + 1))
        case measure => omega
        case rel => exact ⟨k + 1, by omega, rfl, by rw [HS.out]; go_num, by go_num, rfl⟩
      | false =>
        rw [hx] at hs' h1
        have HS := Lib.hid hs'
        clear hs' hx ht hs hle hat hA h0
        go_wp2
        go_roundg (d.ns.length - (k + 1))
        case measure => omega
        case rel => exact ⟨k + 1, by omega, rfl, by rw [HS.out]; simp, by go_num, rfl⟩
    · obtain rfl : k = d.ns.length := by omega
      clear hs hat hle h0
      go_wp2
      go_ret
      exact ⟨rfl, Chg.refl _ _⟩
theorem UOwn.shp {w : World} {B : Nat} {v : Value} {l : List Nat} (h : UOwn w B v l) : ∃ a cap, v = .slice a l.length cap := by
  rcases h.2 with ⟨rfl, h0⟩ | ⟨g, cap, cur, rfl, _⟩
  · rw [h0]; exact ⟨_, _, rfl⟩
  · exact ⟨_, _, rfl⟩
/-- The places that live, ahead of n. -/
def dAll (ns : List DN) (n : Nat) : List Nat := (List.range n).filter fun q => ((ns[q]?).join).isSome
theorem dAll_succ {ns : List DN} {n : Nat} (h : n < ns.length) : dAll ns (n + 1) = if ns[n].isSome then dAll ns n ++ [n] else dAll ns n := by
  unfold dAll
  rw [List.range_succ, List.filter_append]
  have : ((ns[n]?).join).isSome = ns[n].isSome := by rw [List.getElem?_eq_getElem h]; rfl
  cases hx : ns[n].isSome <;> simp [hx, h]
theorem dAll_le (ns : List DN) (n : Nat) : (dAll ns n).length ≤ n := by
  unfold dAll
  exact Nat.le_trans (List.length_filter_le _ _) (by simp)
def apP (ts : Array TypeId) (ty : TypeId) (xs : Array Value) : Sem Value := Builtin.append_ ts ty xs
theorem hold_apP (ts : Array TypeId) (ty : TypeId) (xs : Array Value) : Builtin.append_ ts ty xs = apP ts ty xs := rfl
attribute [local go_sem ↓] hold_apP
def PlP (w : World) (l : List Nat) (e : Ending) (w' : World) : Prop := ∃ v, e = .returned v ∧ UOwn w' w.heap.size v l ∧ Chg [] w w'
set_option maxRecDepth 100000 in
theorem rplaces_calls (b : Nat) (d : DS) (w : World) (h : DIs w b d) : Calls Try.prog 78 #[.pointer (some ⟨b, 0, none⟩)] w (PlP w (dAll d.ns d.ns.length)) := by
  have hl := h.len
  have hat := fun k (hk : k < d.ns.length) => h.at hk
  have hs := fun k (hk : k < d.ns.length) => dAll_succ hk
  have hle := dAll_le d.ns
  have h0 : dAll d.ns 0 = [] := rfl
  go_enter Try.func78, Try.ntmps78
  go_wp2_with fail
  go_loopg [3, 4] d.ns.length (fun m a i wr => ∃ k, k ≤ d.ns.length ∧ m = d.ns.length - k ∧ UOwn wr w.heap.size a (dAll d.ns k) ∧ i = .int .i64 (k : Nat) ∧ Chg [] w wr)
  case atStart => exact ⟨0, Nat.zero_le _, by omega, UOwn.nil _ _, rfl, Chg.refl _ _⟩
  case round =>
    obtain ⟨k, hk, hgk, hO, rfl, hch⟩ := hrel
    have hb : b < wr.heap.size := Nat.lt_of_lt_of_le h.blt hch.size
    have hc := (h.chg0 hch).c1
    by_cases hlt : k < d.ns.length
    · obtain ⟨g, hA, hne, ht⟩ := hat k hlt
      have hs' := hs k hlt
      have hlk := hle k
      have h1 := (ht.chg0 hch).live
      have hgl := (ht.chg0 hch).lt
      rw [hA] at hc
      obtain ⟨a, cap, hv⟩ := hO.shp
      subst hv
      cases hx : d.ns[k].isSome with
      | true =>
        rw [hx] at hs' h1
        rw [if_pos rfl] at hs'
        obtain ⟨v', w', hr, hO2, hc2, hf2⟩ := hO.push k (by omega) hch.size 36
        have hr' : (apP #[36, 36] 36 #[.slice a (dAll d.ns k).length cap, .slice (some ⟨wr.heap.size, 0, none⟩) 1 1]).run Try.prog (wr.alloc (.cells #[.int .u64 (k : Nat)] 31)) = .ok v' w' := hr
        have hfin : UOwn w' w.heap.size v' (dAll d.ns (k + 1)) := by rw [hs']; exact hO2
        have hch2 : Chg [] w w' := hch.trans hc2 (fun x hx => .inr (own_lt hO x hx).1)
        have HF := Lib.hid hfin
        have HC := Lib.hid hch2
        clear hs' hx ht hs hle hat hA h0 hr hfin hch2 hc2 hf2 hO2 hO hch h
        go_wp2
        go_roundg (d.ns.length - (k + 1))
        case measure => omega
        case rel => exact ⟨k + 1, by omega, rfl, HF.out, by go_num, HC.out⟩
      | false =>
        rw [hx] at hs' h1
        rw [if_neg (by simp)] at hs'
        have HS := Lib.hid hs'
        have HO := Lib.hid hO
        have HC := Lib.hid hch
        clear hs' hx ht hs hle hat hA h0 hO hch h
        go_wp2
        go_roundg (d.ns.length - (k + 1))
        case measure => omega
        case rel => exact ⟨k + 1, by omega, rfl, by rw [HS.out]; exact HO.out, by go_num, HC.out⟩
    · obtain rfl : k = d.ns.length := by omega
      have HO := Lib.hid hO
      have HC := Lib.hid hch
      clear hs hat hle h0 h hO hch
      go_wp2
      go_ret
      exact ⟨_, rfl, HO.out, HC.out⟩
end Go.Proofs.Ytonppfebmeehcaa

/- The document's store: Chunks. -/
namespace Go.Proofs.Ytonppfebmeehcaa
open Go.RowKit
set_option linter.unusedVariables false
set_option linter.unusedSimpArgs false

/-- The last chunk met, as the document holds it. -/
def lastM : Option Nat → Int
  | some k => k
  | none => -1
def DS.cc (d : DS) (n : Nat) : Nat × Option Nat := Proofs.Ytonppfebmeehcaa.cc (fun p => (d.nd p).isSome) d.log n
theorem cc_small (lv : Nat → Bool) (lg : Nat) : ∀ n, (cc lv lg n).1 ≤ n ∧ ∀ k, (cc lv lg n).2 = some k → k < n := by
  intro n
  induction n with
  | zero => simp [cc]
  | succ n ih =>
    have hd : n / 2 ^ lg ≤ n := Nat.div_le_self _ _
    rw [cc]
    split
    · split
      · refine ⟨by omega, fun k hk => ?_⟩
        have := ih.2 k hk
        omega
      · refine ⟨by simp; omega, fun k hk => ?_⟩
        simp at hk
        omega
    · refine ⟨by omega, fun k hk => ?_⟩
      have := ih.2 k hk
      omega
theorem lastM_inj {a : Option Nat} {k : Nat} : lastM a = (k : Int) ↔ a = some k := by
  cases a with
  | none => simp [lastM]
  | some j => simp [lastM]; omega
theorem lastM_bound (lv : Nat → Bool) (lg n : Nat) : -1 ≤ lastM (cc lv lg n).2 ∧ lastM (cc lv lg n).2 < n + 1 := by
  have := (cc_small lv lg n).2
  cases h : (cc lv lg n).2 with
  | none => simp [lastM]; omega
  | some k =>
    have := this k h
    simp [lastM]
    omega
set_option maxRecDepth 100000 in
set_option maxHeartbeats 1000000 in
theorem rchunks_calls (b : Nat) (d : DS) (w : World) (h : DIs w b d) : Calls Try.prog 77 #[.pointer (some ⟨b, 0, none⟩)] w (Res w [] (.int .i64 ((d.cc d.ns.length).1 : Nat))) := by
  have hb := h.blt
  have hl := h.len
  have hlog := h.log
  have hc := h.c1
  have hc0 := h.c0
  have hat := fun k (hk : k < d.ns.length) => h.at hk
  have hs : ∀ k, (hk : k < d.ns.length) → d.cc (k + 1) = if d.ns[k].isSome then (if (d.cc k).2 = some (k / 2 ^ d.log) then d.cc k else ((d.cc k).1 + 1, some (k / 2 ^ d.log))) else d.cc k := fun k hk => by
    unfold DS.cc
    rw [cc, d.nd_lt hk]
  have hsm := fun k => (cc_small (fun p => (d.nd p).isSome) d.log k).1
  have hlb := fun k => lastM_bound (fun p => (d.nd p).isSome) d.log k
  have h0 : d.cc 0 = (0, none) := rfl
  have hz : (2 ^ d.log : Nat) ≤ 65536 := by
    calc 2 ^ d.log ≤ 2 ^ 16 := Nat.pow_le_pow_right (by omega) hlog
      _ = 65536 := by decide
  have hpw : ∀ k, k < d.log → 2 ^ (k + 1) = 2 * 2 ^ k ∧ (2 ^ k : Nat) ≤ 65536 := fun k hk => ⟨by rw [Nat.pow_succ, Nat.mul_comm], by
    calc 2 ^ k ≤ 2 ^ 16 := Nat.pow_le_pow_right (by omega) (by omega)
      _ = 65536 := by decide⟩
  change ∀ k, (d.cc k).1 ≤ k at hsm
  change ∀ k, -1 ≤ lastM (d.cc k).2 ∧ lastM (d.cc k).2 < k + 1 at hlb
  clear h
  go_enter Try.func77, Try.ntmps77
  go_wp2_with fail
  go_loopg [5, 6] d.log (fun m a i wr => ∃ k, k ≤ d.log ∧ m = d.log - k ∧ a = .int .i64 ((2 ^ k : Nat) : Int) ∧ i = .int .i64 (k : Nat) ∧ wr = w)
  case atStart => exact ⟨0, Nat.zero_le _, by omega, rfl, rfl, rfl⟩
  case round =>
    obtain ⟨k, hk, hgk, rfl, rfl, rfl⟩ := hrel
    by_cases hlt : k < d.log
    · obtain ⟨p1, p2⟩ := hpw k hlt
      have HP := Lib.hid p1
      obtain ⟨z, hz2⟩ : ∃ z : Nat, 2 ^ k = z := ⟨_, rfl⟩
      rw [hz2] at p2
      have HZ := Lib.hid hz2
      rw [hz2]
      clear hs hat hsm hlb h0 hpw hc p1 hz hz2
      go_wp2
      go_roundg (d.log - (k + 1))
      case measure => omega
      case rel => exact ⟨k + 1, by omega, rfl, by rw [HP.out, HZ.out]; go_num, by go_num, rfl⟩
    · obtain rfl : k = d.log := by omega
      obtain ⟨z, hz2⟩ : ∃ z : Nat, 2 ^ d.log = z := ⟨_, rfl⟩
      have hz1 : 0 < z := by rw [← hz2]; exact Nat.two_pow_pos _
      rw [hz2] at hz
      have HZ := Lib.hid hz2
      rw [hz2]
      clear hpw
      have hdn : decide ((d.log : Int) < d.log) = false := by simp
      clear hlt
      go_wp2_with fail
      go_loopg [3, 4, 7] d.ns.length (fun m a l i wx => ∃ k, k ≤ d.ns.length ∧ m = d.ns.length - k ∧ a = .int .i64 ((d.cc k).1 : Nat) ∧ l = .int .i64 (lastM (d.cc k).2) ∧ i = .int .i64 (k : Nat) ∧ wx = wr)
      case atStart => exact ⟨0, Nat.zero_le _, by omega, rfl, rfl, rfl, rfl⟩
      case round =>
        obtain ⟨k, hk, hgk, rfl, rfl, rfl, rfl⟩ := hrel
        by_cases hlt : k < d.ns.length
        · obtain ⟨g, hA, hne, ht⟩ := hat k hlt
          have hs' := hs k hlt
          have hlk := hsm k
          obtain ⟨hb1, hb2⟩ := hlb k
          have h1 := ht.live
          have hgl := ht.lt
          rw [hA] at hc
          have hinj : lastM (d.cc k).2 = ((k / z : Nat) : Int) ↔ (d.cc k).2 = some (k / z) := lastM_inj
          rw [← hz2] at hinj
          obtain ⟨q, hq⟩ : ∃ q : Nat, k / z = q := ⟨_, rfl⟩
          have hdiv : ((k : Int) / (z : Int)) = (q : Int) := by rw [← hq]; simp
          have hdivt : Int.tdiv (k : Int) (z : Int) = (q : Int) := by rw [← hq]; rfl
          have hq2 : q ≤ k := by rw [← hq]; exact Nat.div_le_self _ _
          rw [hz2, hq] at hinj hs'
          clear hq hz2 hs hat hsm hlb h0 hc0 hA ht
          generalize hLd : lastM (d.cc k).2 = L at *
          cases hx : d.ns[k].isSome with
          | true =>
            rw [hx, if_pos rfl] at hs'
            rw [hx] at h1
            by_cases hLq : L = (q : Int)
            · rw [if_pos (hinj.1 hLq)] at hs'
              have HS := Lib.hid hs'
              have HL := Lib.hid hLd
              have e2 : ((q : Int) != L) = false := by rw [hLq]; simp
              obtain ⟨C, hC⟩ : ∃ C, (d.cc k).1 = C := ⟨_, rfl⟩
              rw [hC] at hlk ⊢
              have HC := Lib.hid hC
              clear hs' hinj hLq hx hLd hC
              go_wp2
              go_roundg (d.ns.length - (k + 1))
              case measure => omega
              case rel => exact ⟨k + 1, by omega, rfl, by rw [HS.out, HC.out], by rw [HS.out, HL.out], by go_num, rfl⟩
            · rw [if_neg (fun e => hLq (hinj.2 e))] at hs'
              have HS := Lib.hid hs'
              have HL := Lib.hid hLd
              have e2 : ((q : Int) != L) = true := by simp; omega
              obtain ⟨C, hC⟩ : ∃ C, (d.cc k).1 = C := ⟨_, rfl⟩
              rw [hC] at hlk ⊢
              have HC := Lib.hid hC
              clear hs' hinj hLq hx hLd hC
              go_wp2
              go_roundg (d.ns.length - (k + 1))
              case measure => omega
              case rel => exact ⟨k + 1, by omega, rfl, by rw [HS.out]; simp only; rw [HC.out]; go_num, by rw [HS.out]; rfl, by go_num, rfl⟩
          | false =>
            rw [hx, if_neg (by simp)] at hs'
            rw [hx] at h1
            have HS := Lib.hid hs'
            have HL := Lib.hid hLd
            obtain ⟨C, hC⟩ : ∃ C, (d.cc k).1 = C := ⟨_, rfl⟩
            rw [hC] at hlk ⊢
            have HC := Lib.hid hC
            clear hs' hinj hx hLd hC
            go_wp2
            go_roundg (d.ns.length - (k + 1))
            case measure => omega
            case rel => exact ⟨k + 1, by omega, rfl, by rw [HS.out, HC.out], by rw [HS.out, HL.out], by go_num, rfl⟩
        · obtain rfl : k = d.ns.length := by omega
          have hlk := hsm d.ns.length
          clear hs hat hsm hlb h0 hz2
          generalize (d.cc d.ns.length).1 = C at *
          generalize lastM (d.cc d.ns.length).2 = L at *
          have hdn2 : decide ((d.ns.length : Int) < d.ns.length) = false := by simp
          go_wp2
          go_ret
          exact ⟨rfl, Chg.refl _ _⟩
end Go.Proofs.Ytonppfebmeehcaa

/- The document's store: Cut. -/
namespace Go.Proofs.Ytonppfebmeehcaa
open Go.RowKit
set_option linter.unusedVariables false
set_option linter.unusedSimpArgs false

def dPinned (ns : List DN) (n : Nat) : Bool := (ns.drop n).any fun x => decide (0 < dnK x)
def dCutE (ns : List DN) (n : Nat) : Int := if ns.length < n then 31 else (if dPinned ns n then 51 else 0)
def dCut (ns : List DN) (n : Nat) : List DN := if ns.length < n then ns else (if dPinned ns n then ns else ns.take n)
theorem dPinned_at {ns : List DN} {n k : Nat} (h1 : n ≤ k) (h2 : k < ns.length) (h3 : 0 < dnK ns[k]) : dPinned ns n = true := by
  unfold dPinned
  rw [List.any_eq_true]
  refine ⟨ns[k], ?_, by simpa using h3⟩
  rw [List.mem_iff_getElem]
  exact ⟨k - n, by simp; omega, by rw [List.getElem_drop]; congr 1; omega⟩
theorem dPinned_not {ns : List DN} {n : Nat} (h : ∀ k, n ≤ k → (hk : k < ns.length) → dnK ns[k] = 0) : dPinned ns n = false := by
  unfold dPinned
  rw [List.any_eq_false]
  intro x hx
  obtain ⟨i, hi, rfl⟩ := List.mem_iff_getElem.1 hx
  rw [List.getElem_drop]
  simp at hi
  rw [h (n + i) (by omega) (by omega)]
  simp
theorem ob_eq (A : Option Addr) (n c n' c' : Nat) : ob (.slice A n c) = ob (.slice A n' c') := by cases A <;> rfl
theorem DIs.cut {w : World} {b n : Nat} {d : DS} (h : DIs w b d) (hn : n ≤ d.ns.length) : ∀ A, (A = d.A) →
    DIs (w.setCell ⟨b, 1, none⟩ (.slice A n n)) b ⟨d.log, A, n, d.ns.take n⟩ := by
  rintro A rfl
  have hlen : (d.ns.take n).length = n := by simp; omega
  have hc : Chg [b] w (w.setCell ⟨b, 1, none⟩ (.slice d.A n n)) := (Chg.refl _ _).setCell (by simp) _
  have hok : ∀ x ∈ d.ns.take n, dnOk x := fun x hx => h.ok x (List.mem_of_mem_take hx)
  refine ⟨?_, ?_, by have := h.apart; unfold DS.sl at *; rwa [ob_eq _ _ _ d.ns.length d.cap], hok, h.log, by rw [hlen]; have := h.len; omega⟩
  · have := blk_set h.head 1 (.slice d.A n n)
    simp only [hlen]
    simpa using this
  · simp only [hlen]
    refine LRow.chg (w := w) ?_ hc (fun k hk => by
      simp
      rintro rfl
      exact h.apart (by unfold DS.sl; rwa [ob_eq _ _ _ n n]))
    refine ⟨by rw [dnF_length hok, hlen], ?_⟩
    rcases h.row.2 with ⟨hv, h0⟩ | ⟨g, cap, cur, hv, hh, hnc, hcm, hcs, ht⟩
    · injection hv with hA _ _
      left
      have : n = 0 := by omega
      subst this
      exact ⟨by rw [hA], rfl⟩
    · injection hv with hA _ _
      right
      refine ⟨g, n, cur, by rw [hA], hh, Nat.le_refl _, by omega, ?_, ?_⟩
      · exact Nat.le_trans (Nat.mul_le_mul_right _ (by omega)) hcs
      · have e : dnF d.ns = dnF (d.ns.take n) ++ dnF (d.ns.drop n) := by rw [← dnF_append, List.take_append_drop]
        have l : (dnF (d.ns.take n)).length = n * 34 := by rw [dnF_length hok, hlen]
        have : cur.toList.take (n * 34) = (cur.toList.take (d.ns.length * 34)).take (n * 34) := by
          rw [List.take_take, Nat.min_eq_left]
          exact Nat.mul_le_mul_right _ hn
        rw [this, ht, e, ← l]
        exact List.take_left
set_option maxRecDepth 100000 in
theorem rcut_calls (b n : Nat) (d : DS) (w : World) (h : DIs w b d) (hn64 : n < 18446744073709551616) :
    Calls Try.prog 59 #[.pointer (some ⟨b, 0, none⟩), .int .u64 n] w (DP w b d (dCut d.ns n) (.int .i64 (dCutE d.ns n))) := by
  have hb := h.blt
  have hl := h.len
  have hc := h.c1
  by_cases hn : d.ns.length < n
  · have e1 : Hid (dCutE d.ns n = 31) := by unfold Hid dCutE; rw [if_pos hn]
    have e2 : Hid (dCut d.ns n = d.ns) := by unfold Hid dCut; rw [if_pos hn]
    rw [e1.out]
    have HH := Lib.hid h
    clear h e1
    go_enter Try.func59, Try.ntmps59
    go_wp2
    go_ret
    exact HH.out.keep2 (Chg.refl _ _) e2.out
  · have hat := fun k (hk : k < d.ns.length) => h.at hk
    have HH := Lib.hid h
    have dn : decide ((d.ns.length : Int) < n) = false := by simp; omega
    clear h
    go_enter Try.func59, Try.ntmps59
    go_wp2_with fail
    go_loopg [5] (d.ns.length - n) (fun m i wr => ∃ k, n ≤ k ∧ k ≤ d.ns.length ∧ m = d.ns.length - k ∧ (∀ j, n ≤ j → j < k → (hj : j < d.ns.length) → dnK d.ns[j] = 0) ∧ i = .int .u64 (k : Nat) ∧ wr = w)
    case atStart => exact ⟨n, Nat.le_refl _, by omega, by omega, by intro j h1 h2; omega, rfl, rfl⟩
    case round =>
      obtain ⟨k, hnk, hk, hgk, hz, rfl, rfl⟩ := hrel
      by_cases hlt : k < d.ns.length
      · obtain ⟨g, hA, hne, ht⟩ := hat k hlt
        have h1 := ht.pins
        have hgl := ht.lt
        rw [hA] at hc
        by_cases hp : 0 < dnK d.ns[k]
        · have e0 := dPinned_at hnk hlt hp
          have e1 : Hid (dCutE d.ns n = 51) := by unfold Hid dCutE; rw [if_neg hn, if_pos e0]
          have e2 : Hid (dCut d.ns n = d.ns) := by unfold Hid dCut; rw [if_neg hn, if_pos e0]
          rw [e1.out]
          generalize dnK d.ns[k] = K at *
          clear hat hA ht e0 hz e1
          go_wp2
          go_ret
          exact HH.out.keep2 (Chg.refl _ _) e2.out
        · have hK : dnK d.ns[k] = 0 := by omega
          rw [hK] at h1
          have hz' : ∀ j, n ≤ j → j < k + 1 → (hj : j < d.ns.length) → dnK d.ns[j] = 0 := fun j a1 a2 hj => by
            by_cases e : j = k
            · subst e; exact hK
            · exact hz j a1 (by omega) hj
          have HZ := Lib.hid hz'
          clear hat hA ht hz hz' hK hp
          go_wp2
          go_roundg (d.ns.length - (k + 1))
          case measure => omega
          case rel => exact ⟨k + 1, by omega, by omega, rfl, HZ.out, by go_num, rfl⟩
      · obtain rfl : k = d.ns.length := by omega
        have e0 : dPinned d.ns n = false := dPinned_not (fun j a1 a2 => hz j a1 (by omega) a2)
        have e1 : Hid (dCutE d.ns n = 0) := by unfold Hid dCutE; rw [if_neg hn, e0]; rfl
        have e2 : Hid (dCut d.ns n = d.ns.take n) := by unfold Hid dCut; rw [if_neg hn, e0]; rfl
        have hfz := blk_frozen HH.out.head 1
        have hcut := HH.out.cut (n := n) (by omega)
        have hcap : d.ns.length ≤ d.cap := by
          rcases HH.out.row.2 with ⟨hv, h0⟩ | ⟨g, cap, cur, hv, hh, hnc, _⟩
          · omega
          · injection hv with _ _ e; omega
        have HC := Lib.hid hcut
        have hmv : ∀ A, A = d.A → Mv (d.foot b) (DS.foot ⟨d.log, A, n, d.ns.take n⟩ b) wr (wr.setCell ⟨b, 1, none⟩ (.slice A n n)) := by
          rintro A rfl
          refine ⟨(Chg.refl _ _).setCell (.inl (by simp [DS.foot])) _, fun k hk => .inl ?_⟩
          unfold DS.foot DS.sl at hk ⊢
          rwa [ob_eq _ _ _ d.ns.length d.cap] at hk
        have HM := Lib.hid hmv
        clear hat hz e0 hcut hmv
        cases hA : d.A with
        | none =>
          rw [hA] at hc
          go_wp2
          go_ret
          exact ⟨by rw [e1.out]; rfl, _, HC.out none hA.symm, e2.out.symm, rfl, HM.out none hA.symm⟩
        | some a =>
          obtain ⟨g, rfl⟩ : ∃ g, a = ⟨g, 0, none⟩ := by
            rcases HH.out.row.2 with ⟨hv, h0⟩ | ⟨g, cap, cur, hv, hh, hnc, _⟩
            · injection hv with e; rw [hA] at e; cases e
            · injection hv with e; rw [hA] at e; exact ⟨g, by injection e⟩
          rw [hA] at hc
          go_wp2
          go_ret
          exact ⟨by rw [e1.out]; rfl, _, HC.out (some ⟨g, 0, none⟩) hA.symm, e2.out.symm, rfl, HM.out (some ⟨g, 0, none⟩) hA.symm⟩
end Go.Proofs.Ytonppfebmeehcaa

/- The document's store: Sweep. -/
namespace Go.Proofs.Ytonppfebmeehcaa
open Go.RowKit
set_option linter.unusedVariables false
set_option linter.unusedSimpArgs false

def dSwGoes (x : DN) (k : Nat) (kl : List Nat) : Bool := x.isSome && !(decide (0 < dnK x) || decide (k ∈ kl))
def dSw (ns : List DN) (kl : List Nat) : Nat → List DN × Nat
  | 0 => (ns, 0)
  | k + 1 => if dSwGoes ((ns[k]?).join) k kl then ((dSw ns kl k).1.set k none, (dSw ns kl k).2 + 1) else dSw ns kl k
theorem dSw_length (ns : List DN) (kl : List Nat) : ∀ k, (dSw ns kl k).1.length = ns.length := by
  intro k
  induction k with
  | zero => rfl
  | succ k ih => rw [dSw]; split <;> simp [ih]
theorem dSw_at (ns : List DN) (kl : List Nat) : ∀ k j, (dSw ns kl k).1[j]? = if j < k ∧ j < ns.length ∧ dSwGoes ((ns[j]?).join) j kl = true then some none else ns[j]? := by
  intro k
  induction k with
  | zero => intro j; rw [if_neg (by omega)]; rfl
  | succ k ih =>
    intro j
    rw [dSw]
    by_cases hg : dSwGoes ((ns[k]?).join) k kl = true
    · rw [if_pos hg]
      simp only [List.getElem?_set, dSw_length]
      by_cases e : k = j
      · subst e
        by_cases hl : k < ns.length
        · rw [if_pos rfl, if_pos hl, if_pos ⟨by omega, hl, hg⟩]
        · rw [if_pos rfl, if_neg hl, if_neg (fun h => hl h.2.1), List.getElem?_eq_none (by omega)]
      · rw [if_neg e, ih j]
        by_cases h1 : j < k
        · simp [h1, show j < k + 1 from by omega]
        · rw [if_neg (fun h => h1 h.1), if_neg (fun h => by omega)]
    · rw [if_neg hg, ih j]
      by_cases e : k = j
      · subst e
        rw [if_neg (fun h => by omega), if_neg (fun h => hg h.2.2)]
      · by_cases h1 : j < k
        · simp [h1, show j < k + 1 from by omega]
        · rw [if_neg (fun h => h1 h.1), if_neg (fun h => by omega)]
theorem dSw_le (ns : List DN) (kl : List Nat) : ∀ k, (dSw ns kl k).2 ≤ k := by
  intro k
  induction k with
  | zero => exact Nat.le_refl _
  | succ k ih =>
    rw [dSw]
    split
    · show (dSw ns kl k).2 + 1 ≤ k + 1
      omega
    · omega
set_option maxRecDepth 100000 in
set_option maxHeartbeats 1000000 in
theorem rsweep_calls (b : Nat) (d : DS) (w : World) (h : DIs w b d) (kl : List Nat) (a : Option Addr) (cap : Nat) (hkl : kl.length ≤ 1000000)
    (hrd : ∀ w', Chg (d.foot b) w w' → Rd w' 1 a kl.length (kl.map fun (n : Nat) => Value.int .u64 (n : Int))) :
    Calls Try.prog 56 #[.pointer (some ⟨b, 0, none⟩), .slice a kl.length cap] w (DP w b d (dSw d.ns kl d.ns.length).1 (.int .u64 ((dSw d.ns kl d.ns.length).2 : Nat))) := by
  have hl := h.len
  have hle := dSw_le d.ns kl
  have hlen := dSw_length d.ns kl
  have hget := dSw_at d.ns kl
  have hfoot : d.foot b = b :: ob d.sl := rfl
  have hfootE : ∀ ns', DS.foot { d with ns := ns' } b = d.foot b := fun ns' => by unfold DS.foot DS.sl; rw [show ob (Value.slice d.A ns'.length d.cap) = ob (.slice d.A d.ns.length d.cap) from by cases d.A <;> rfl]
  go_enter Try.func56, Try.ntmps56
  go_wp2_with fail
  go_loopg [5, 6] d.ns.length (fun m c i wr => ∃ k, k ≤ d.ns.length ∧ m = d.ns.length - k ∧ c = .int .u64 ((dSw d.ns kl k).2 : Nat) ∧ i = .int .i64 (k : Nat) ∧ DIs wr b { d with ns := (dSw d.ns kl k).1 } ∧ Chg (d.foot b) w wr)
  case atStart => exact ⟨0, Nat.zero_le _, by omega, rfl, rfl, h, Chg.refl _ _⟩
  case round =>
    obtain ⟨k, hk, hgk, rfl, rfl, hD, hch⟩ := hrel
    have hb : b < wr.heap.size := hD.blt
    have hc := hD.c1
    simp only [hlen] at hc
    have hck := hle k
    by_cases hlt : k < d.ns.length
    · have hlt2 : k < (dSw d.ns kl k).1.length := by rw [hlen]; exact hlt
      obtain ⟨g, hA, hne, ht⟩ := hD.at hlt2
      simp only at hA ht hc
      have hx : (dSw d.ns kl k).1[k] = d.ns[k] := by
        have := hget k k
        rw [if_neg (by omega), List.getElem?_eq_getElem hlt2, List.getElem?_eq_getElem hlt] at this
        exact Option.some.inj this
      rw [hx] at ht
      rw [hA] at hc
      have hjo : (d.ns[k]?).join = d.ns[k] := by rw [List.getElem?_eq_getElem hlt]; rfl
      have hsucc : dSw d.ns kl (k + 1) = if dSwGoes d.ns[k] k kl then ((dSw d.ns kl k).1.set k none, (dSw d.ns kl k).2 + 1) else dSw d.ns kl k := by rw [dSw, hjo]
      have h1 := ht.pins
      have h2 := ht.live
      have hgl := ht.lt
      have hmay := ht.may
      have hput := hD.put_node hlt2 hA (x := none) (by intro _ _ e; cases e)
      have hgf : g ∈ d.foot b := by rw [hfoot]; simp [DS.sl, hA, ob, Value.ownBlock]
      have hchp : Chg (d.foot b) w (setRng wr g (k * 34) (dnC none)) := hch.trans (setRng_chg _ _ _ _) (by intro x hx; simp at hx; subst hx; exact .inl hgf)
      have hkr := hrd wr hch
      have HP := Lib.hid (And.intro hput hchp)
      have HD := Lib.hid (And.intro hD hch)
      have HS := Lib.hid hsucc
      have HR := Lib.hid hrd
      obtain ⟨B0, hB0⟩ : ∃ B0, decide (0 < dnK d.ns[k]) = B0 := ⟨_, rfl⟩
      obtain ⟨B1, hB1⟩ : ∃ B1, d.ns[k].isSome = B1 := ⟨_, rfl⟩
      obtain ⟨K, hK⟩ : ∃ K, dnK d.ns[k] = K := ⟨_, rfl⟩
      rw [hB1] at h2
      rw [hK] at h1 hB0
      have hG : dSwGoes d.ns[k] k kl = (B1 && !(B0 || decide (k ∈ kl))) := by unfold dSwGoes; rw [hB1, hK, hB0]
      have hB0' : decide ((0 : Int) < (K : Int)) = B0 := by simpa using hB0
      have HG := Lib.hid hG
      clear hput hchp hch hsucc hrd hget hle hlen hD hgf hx hjo ht hfootE hB1 hK hG hlt2 hB0 hfoot h
      go_wp2_with fail
      go_loopg [7, 8] kl.length (fun m kp i wx => ∃ j, j ≤ kl.length ∧ m = kl.length - j ∧ kp = .bool (B0 || decide (k ∈ kl.take j)) ∧ i = .int .i64 (j : Nat) ∧ wx = wr)
      case atStart => exact ⟨0, Nat.zero_le _, by omega, by rw [← hB0']; simp, rfl, rfl⟩
      case round =>
        obtain ⟨j, hj, hgj, rfl, rfl, rfl⟩ := hrel
        by_cases hjl : j < kl.length
        · obtain ⟨kb, ko, rfl, hcell⟩ := hkr.2 (by omega)
          have hcj := hcell j (.int .u64 (kl[j] : Nat)) (by simp [hjl])
          have hkb := World.block_lt_of_cell? _ _ hcj
          have htk : decide (k ∈ kl.take (j + 1)) = (decide (k ∈ kl.take j) || decide (k = kl[j])) := by
            rw [List.take_succ_eq_append_getElem hjl]
            have : ∀ (l : List Nat) (y : Nat), decide (k ∈ l ++ [y]) = (decide (k ∈ l) || decide (k = y)) := fun l y => by
              rw [Bool.eq_iff_iff]; simp
            exact this _ _
          have HT := Lib.hid htk
          clear hcell htk hkr
          by_cases he : kl[j] = k
          · have e1 : ((kl[j] : Int) == (k : Int)) = true := by simp; omega
            have he2 := Lib.hid he
            rw [he] at hcj
            clear he e1
            go_wp2
            go_roundg (kl.length - (j + 1))
            case measure => omega
            case rel => exact ⟨j + 1, by omega, rfl, by rw [HT.out, he2.out]; simp, by go_num, rfl⟩
          · have e1 : ((kl[j] : Int) == (k : Int)) = false := by simp; omega
            have he2 := Lib.hid he
            clear he
            generalize kl[j] = y at *
            go_wp2
            go_roundg (kl.length - (j + 1))
            case measure => omega
            case rel => exact ⟨j + 1, by omega, rfl, by rw [HT.out, show decide (k = y) = false from by simp; exact fun e => he2.out e.symm]; simp, by go_num, rfl⟩
        · obtain rfl : j = kl.length := by omega
          rw [List.take_length]
          obtain ⟨B2, hB2⟩ : ∃ B2, (B0 || decide (k ∈ kl)) = B2 := ⟨_, rfl⟩
          have hG := HG.out
          rw [hB2] at hG ⊢
          have HG2 := Lib.hid hG
          clear hG hB2 hjl hkr
          cases B1 with
          | false =>
            have hn : Hid (dSw d.ns kl (k + 1) = dSw d.ns kl k) := by unfold Hid; rw [HS.out, HG2.out]; rfl
            go_wp2
            go_roundg (d.ns.length - (k + 1))
            case measure => omega
            case rel => exact ⟨k + 1, by omega, rfl, by rw [hn.out], by go_num, by rw [hn.out]; exact HD.out.1, HD.out.2⟩
          | true =>
            cases B2 with
            | true =>
              have hn : Hid (dSw d.ns kl (k + 1) = dSw d.ns kl k) := by unfold Hid; rw [HS.out, HG2.out]; rfl
              go_wp2
              go_roundg (d.ns.length - (k + 1))
              case measure => omega
              case rel => exact ⟨k + 1, by omega, rfl, by rw [hn.out], by go_num, by rw [hn.out]; exact HD.out.1, HD.out.2⟩
            | false =>
              have hn : Hid (dSw d.ns kl (k + 1) = ((dSw d.ns kl k).1.set k none, (dSw d.ns kl k).2 + 1)) := by unfold Hid; rw [HS.out, HG2.out]; rfl
              obtain ⟨C, hC⟩ : ∃ C, (dSw d.ns kl k).2 = C := ⟨_, rfl⟩
              rw [hC] at hck ⊢
              have HC := Lib.hid hC
              clear hC
              go_wp2
              go_roundg (d.ns.length - (k + 1))
              case measure => omega
              case rel => exact ⟨k + 1, by omega, rfl, by rw [hn.out]; simp only; rw [HC.out]; go_num, by go_num, by rw [hn.out]; exact HP.out.1, HP.out.2⟩
    · obtain rfl : k = d.ns.length := by omega
      have HD := Lib.hid (And.intro hD hch)
      have HE := Lib.hid hfootE
      clear hget hlen hle hD hch hfootE hrd h hlt
      generalize (dSw d.ns kl d.ns.length).2 = C at *
      have hdn : decide ((d.ns.length : Int) < d.ns.length) = false := by simp
      go_wp2
      go_ret
      exact ⟨rfl, _, HD.out.1, rfl, rfl, HD.out.2, fun k hk => .inl (by rwa [HE.out] at hk)⟩
end Go.Proofs.Ytonppfebmeehcaa

/- slices.SortedFunc at the store's keys: contract. -/
import Derived.Test.YtonppfebmeehcaaItB
import Derived.Test.YtonppfebmeehcaaItC
import Derived.Test.YtonppfebmeehcaaSrtK
import Derived.Test.YtonppfebmeehcaaLysortK
namespace Go.Proofs.Ytonppfebmeehcaa
open Go.RowKit Go.Shelf Go.Sort
set_option linter.unusedVariables false
set_option linter.unusedSimpArgs false
/-- What sorting the keys comes to. -/
def SortedP (L : List Nat) (w : World) (e : Ending) (w' : World) : Prop := ∃ v ks, e = .returned v ∧ ks.Perm L ∧ ks.Pairwise (· < ·) ∧ KOwn w' w.heap.size v ks ∧ Chg [] w w'
theorem isAgg_key (w : World) : (isAgg 102).run Try.prog w = .ok true w := by kernel_rfl
theorem sizeOf_key (w : World) : (Go.sizeOf 102).run Try.prog w = .ok 1 w := by kernel_rfl
theorem flat_keys (l : List Nat) : l.flatMap encKs = l.map fun (n : Nat) => Value.int .u64 (n : Int) := by
  induction l with
  | nil => rfl
  | cons x l ih => rw [List.flatMap_cons, ih]; rfl
theorem up_of_sorted {l : List Nat} (hn : l.Nodup) (hs : ∀ i j (hi : i < j) (hj : j < l.length), ¬ cfK l[j] l[i] < 0) : l.Pairwise (· < ·) := by
  rw [List.pairwise_iff_getElem]
  intro i j hi hj hij
  have h1 := hs i j hij hj
  have h2 : ¬ l[j] < l[i] := fun h => h1 (by unfold cfK; rw [if_pos h]; decide)
  have h3 : l[i] ≠ l[j] := fun e => by have := (List.getElem_inj hn).1 e; omega
  omega
theorem sorted_calls (B cm : Nat) (m : List (Nat × Value)) (w : World) (hb : w.heap[B]? = some (.cells #[.map (some cm)] 77 (0, 0))) (hm : MapIs encK w cm m) (hl : m.length ≤ 1099511627776) :
    Calls Try.prog 67 #[.func (.func 84) #[] #[.pointer (some ⟨B, 0, none⟩)], .func (.func 69) #[] #[]] w (SortedP (m.map (·.1)) w) := by
  have hC := collect_calls 84 #[.pointer (some ⟨B, 0, none⟩)] _ _ _ w (enters_of Try.func84 (by kernel_rfl) rfl) (keys_seq B cm m w hb hm)
    (fun k hk => by rcases List.mem_cons.1 hk with e | e; subst e; exact blk_lt hb; simp at e; subst e; exact hm.lt) (fun pre hp => by have := hp.le; rw [List.length_map] at this; omega)
  have hnd := hm.keys
  have eg : ∀ args w, (callFunc 69 args).run Try.prog w = .ok (.enter 69 args) w := enters_of Try.func69 (by kernel_rfl) rfl
  have hS := fun (W : World) (v : Value) (ks : List Nat) (h : KOwn W w.heap.size v ks) (hlen : ks.length < 4611686018427387904) => sort_calls Try.sortK 1 isAgg_key sizeOf_key encKs (fun _ => rfl) (fun x v hv => by simp [encKs] at hv; subst hv; rfl) cfK swoK 69 #[] eg W w.heap.size 102 v ks (by rw [flat_keys]; exact h) hlen (fun blk _ => cmpK_lays blk _ W)
  change ∀ W v ks, _ → _ → Calls Try.prog 83 _ _ _ at hS
  clear hb hm
  go_enter Try.func67, Try.ntmps67
  go_wp2_with (first
    | (go_at_call 82; refine hC.mono ?_; rintro e w1 ⟨v, ks, rfl, hp, hO, hc⟩)
    | (go_at_call 83; refine (hS _ v ks hO (by have := hp.length_eq; rw [List.length_map] at this; omega)).mono ?_; rintro e w2 ⟨rfl, l', hp', hs', hO', hc'⟩))
  go_ret
  refine ⟨v, l', rfl, hp'.trans hp, up_of_sorted (((hp'.trans hp).nodup_iff).2 hnd) (fun i j a b => Int.not_lt.2 (hs' i j a b)), ?_, hc.trans hc' (fun x hx => .inr (own_lt hO x hx).1)⟩
  have e := flat_keys l'
  unfold KOwn
  rw [← e, hp'.length_eq]
  exact hO'
end Go.Proofs.Ytonppfebmeehcaa

/-
  How many numbers the entries of a pack hold that is sent. No condition.
  At a shaped start the library's variable MaxLen holds a number. No condition.
-/
import Derived.Test.YtnaeglfochnikaaGreatZ12
import Derived.Test.YtnaeglfochnikaaGreatZ18
import Derived.Test.YtnaeglfochnikaaGreatZ1
import Derived.HandedShaped
import Derived.Shelf.Vars
import Derived.ChangeAt
namespace Go.Proofs.YtnaeglfochnikaaGreat
set_option linter.unusedVariables false
set_option linter.unusedSimpArgs false
open Go.RowKit

theorem cnt_dOps (xs : List OpD) : D.cnt (dOps xs) ≤ 3 * D.sz (dOps xs) :=
  cnt_arr_le fOp (fun x => by unfold fOp; simp only [cntL_cons, cntL_nil, cnt_int, cnt_str]; omega) 3 xs
theorem cnt_dPackEntrys (xs : List PED) : D.cnt (dPackEntrys xs) ≤ 3 * D.sz (dPackEntrys xs) :=
  cnt_arr_le fPackEntry (fun x => by
    rw [szL_fPackEntry]
    unfold fPackEntry
    simp only [cntL_cons, cntL_nil, cnt_int, cnt_ints]
    have h1 := cnt_dOps x.ops
    have h2 := sz_ints x.links
    omega) 4 xs
/-- an entry is small -/
def smallE (p : PED) : Prop := p.links.length ≤ 1000 ∧ p.ops.length ≤ 8 ∧ ∀ o ∈ p.ops, o.text.size ≤ 9
theorem szL_all {α : Type} (f : α → List D) (B : Nat) : ∀ (xs : List α), (∀ x ∈ xs, D.szL (f x) ≤ B) → D.szL (xs.flatMap f) ≤ xs.length * B
  | [], _ => by rw [List.flatMap_nil, szL_nil]; omega
  | x :: xs, h => by
    rw [List.flatMap_cons, szL_app, List.length_cons, Nat.add_mul]
    have h1 := h x (List.mem_cons_self ..)
    have h2 := szL_all f B xs (fun y hy => h y (List.mem_cons_of_mem _ hy))
    omega
theorem smallE_sz {p : PED} (h : smallE p) : D.szL (fPackEntry p) ≤ 1100 := by
  obtain ⟨h1, h2, h3⟩ := h
  rw [szL_fPackEntry, sz_ints]
  unfold dOps
  rw [sz_arr]
  have h4 := szL_all fOp 9 p.ops (fun o ho => by rw [szL_fOp]; exact h3 o ho)
  omega
theorem mkTo_small {os : List ObjD} (h : ∀ o ∈ os, objB o = true) : ∀ {k : Nat}, k ≤ os.length → ∀ p ∈ mkTo os k, smallE p
  | 0, _, p, hp => by cases hp
  | k + 1, hk, p, hp => by
    rw [mkTo, List.mem_append, List.mem_singleton] at hp
    rcases hp with hp | rfl
    · exact mkTo_small h (by omega) p hp
    · rw [entM_at (show k < os.length by omega)]
      refine ⟨?_, make_len, fun o ho => ?_⟩
      · have := (objB_and (h _ (List.getElem_mem (show k < os.length by omega)))).2.1
        show os[k].links.length ≤ 1000; omega
      · have := makeB_txt o ho; omega
theorem cnt_fpack (os : List ObjD) (ws hs : List Int) : D.cnt (dPackEntrys (fpackL os ws hs)) ≤ 100000 := by
  have h1 := cnt_dPackEntrys (fpackL os ws hs)
  have h2 : D.sz (dPackEntrys (fpackL os ws hs)) ≤ 17616 := by
    rcases hok : okF os ws hs with _ | _
    · rw [fpackL_no hok]; decide
    · rw [fpackL_yes hok]
      unfold dPackEntrys mkL
      rw [sz_arr, mkTo_len]
      have h3 := szL_all fPackEntry 1100 (mkTo (needO os ws hs) (needO os ws hs).length) (fun p hp => smallE_sz (mkTo_small (needO_obj hok) (Nat.le_refl _) p hp))
      rw [mkTo_len] at h3
      have h4 := needL_len16 hok
      rw [← needO_len] at h4
      omega
  omega

end Go.Proofs.YtnaeglfochnikaaGreat

namespace Go.Proofs.YtnaeglfochnikaaGreat
set_option linter.unusedVariables false
set_option linter.unusedSimpArgs false
open Go.ChangeShapes Go.WideShapes Go.ChangeAt Go.RowKit

theorem Tryz.maxlen (W : World) (h : W.ShapedOpen Tryz.prog) : ∃ m, W.cell? ⟨0, 0, none⟩ = some (.int .i64 m) :=
  cell_of_shapedOpen_int h (of_decide_eq_true (by kernel_rfl)) (zero := #[.int .i64 0]) (t := 3) (by kernel_rfl) rfl (by kernel_rfl) (by kernel_rfl) Tryz.underlying3

end Go.Proofs.YtnaeglfochnikaaGreat

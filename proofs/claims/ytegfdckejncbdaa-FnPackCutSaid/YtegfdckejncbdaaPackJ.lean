/-
  The walks of the program's PackObjects and PackSum: the objects of a pack, and its sum. Condition: lengths are small.
-/
import Derived.Test.YtegfdckejncbdaaPackI
import Derived.Test.YtegfdckejncbdaaDeltaX
import Derived.Test.YtegfdckejncbdaaIntD
import Derived.Test.YtegfdckejncbdaaTObject
import Derived.Deep.RegionHeld3
namespace Go.Proofs.Ytegfdckejncbdaa
set_option linter.unusedVariables false
set_option linter.unusedSimpArgs false
open Go.RowKit

theorem Try.elI : ElemT Try.prog 37 3 (.int .i64 0) 1 8 := ⟨Try.underlying37, by kernel_rfl, rfl, by decide⟩
theorem Try.elObj : ElemT Try.prog 31 39 (.agg #[.int .i64 0, .slice none 0 0, .string ⟨#[]⟩]) 3 48 := ⟨Try.underlying31, by kernel_rfl, rfl, by decide⟩

set_option maxRecDepth 100000 in
set_option maxHeartbeats 800000 in
theorem cloneInt_d (xs : List Int) (A : Option Addr) (n c : Nat) (w : World) (lo hi : Nat) (hh : hi ≤ w.heap.size) (hn : n ≤ 1048576) (h : D.rd w lo hi (intsD xs) (.slice A n c)) :
    Calls Try.prog 34 #[.slice A n c] w fun e w' => ∃ (B : Option Addr) (d : Nat), Own w' w.heap.size (intsD xs) (.slice B n d) ∧ Below w.heap.size w w' ∧ e = .returned (.slice B n d) := by
  have HX := Lib.hid h.ints
  have hxl := Lib.hid h.ints.1
  have qT : ∀ (w : World) (a : Option Addr) (n c n' c' : Nat), (binOp .eql 37 (.slice a n c) (.slice none n' c')).run Try.prog w = .ok (.bool a.isNone) w := fun w a n c n' c' => Lib.run_eql_slice_nil w _ _ a n c n' c' Try.underlying37
  clear h
  rcases A with _ | ad
  · have hx0 : xs = [] := by
      rcases hxs : xs with _ | ⟨x, l⟩
      · rfl
      · obtain ⟨b, o, e, _⟩ := HX.out.2 (by rw [hxs]; simp [ci])
        cases e
    have hn0 : n = 0 := by rw [← hxl.out, hx0]; rfl
    subst hx0 hn0
    go_enter Try.func34, Try.ntmps34
    go_wp2_with fail
    go_ret
    exact ⟨_, _, own_ints (E := 3) (World.ownsRow_nil _ _ _ _), Below.refl _ _, rfl⟩
  · have hown0 := Lib.hid (own_nil_lit w 3 1)
    go_enter Try.func34, Try.ntmps34
    go_wp2_with (at_builtin; go_must (refine wpList_app Try.elI hown0.out (HX.out.2.alloc hh _) (by rw [flat_len ci 1 ci_len, hxl.out]) (by rw [flat_ci]; simp [Value.oneCell']) (by unfold maxLen; omega) (by omega) (by simp) rfl rfl rfl rfl ?_); intro v2 w2 hown2 hg2)
    rw [Nat.zero_add, List.nil_append] at hown2
    have HO := Lib.hid hown2
    have HB := Lib.hid (below_app ((Below.refl w.heap.size w).alloc (Nat.le_refl _) (.cells #[] 3)) (Nat.le_refl _) (by simp) hown0.out hg2)
    clear hown2 hg2
    obtain ⟨B, d, rfl, -, -, -⟩ := Rd.of_own HO.out
    go_ret
    exact ⟨B, d, own_ints HO.out, HB.out, rfl⟩

/-- a row of the call's own, and one element more whose parts have been made -/
def GrowP (w : World) (base : Nat) (E : TypeId) (m : Nat) (v : Value) (n : Nat) (es ds : List D) (us : List Value) : Prop :=
  ∃ vs F G, w.ownsRow base E m v n vs ∧ D.ownL w es F vs ∧ D.ownL w ds G us ∧ (F ++ G).Nodup ∧ (∀ g ∈ F ++ G, base ≤ g ∧ g < w.heap.size) ∧ ∀ g, v.ownBlock = some g → g ∉ F ++ G
section
variable {w w' : World} {base m n : Nat} {E : TypeId} {v v' : Value} {es ds : List D} {us : List Value}
theorem GrowP.mk_ (h : Grow w base E m v n es) (hb : Below w.heap.size w w') (hd : OwnL w' w.heap.size ds us) (hbs : base ≤ w.heap.size) : GrowP w' base E m v n es ds us := by
  obtain ⟨vs, F, h1, h2, h3, h4, h5⟩ := h
  obtain ⟨G, k1, k2, k3⟩ := hd
  refine ⟨vs, F, G, own_below h1 hb, D.ownL.keep es F vs (fun g hg => hb.block g (h4 g hg).2) h2, k3, List.nodup_append.2 ⟨h3, k1, fun a ha b hb' e => ?_⟩, fun g hg => ?_, fun g hv hg => ?_⟩
  · subst e; have := (h4 a ha).2; have := (k2 a hb').1; omega
  · rcases List.mem_append.1 hg with hg | hg
    · exact ⟨(h4 g hg).1, Nat.lt_of_lt_of_le (h4 g hg).2 hb.size⟩
    · exact ⟨Nat.le_trans hbs (k2 g hg).1, (k2 g hg).2⟩
  · rcases List.mem_append.1 hg with hg | hg
    · exact h5 g hv hg
    · have := (h1.lt g hv).2; have := (k2 g hg).1; omega
theorem GrowP.grown {row : Option Nat} (h : GrowP w base E m v n es ds us) (hg : w.grownBy w' row) (hr : ∀ g, row = some g → g < base) : GrowP w' base E m v n es ds us := by
  obtain ⟨vs, F, G, h1, h2, h3, h4, h5, h6⟩ := h
  have hk : ∀ g ∈ F ++ G, w'.heap[g]? = w.heap[g]? := fun g hg' => hg.block g (h5 g hg').2 (fun e => by have := hr g e.symm; have := (h5 g hg').1; omega)
  refine ⟨vs, F, G, h1.kept hg ?_, D.ownL.keep es F vs (fun g hg' => hk g (List.mem_append_left _ hg')) h2, D.ownL.keep ds G us (fun g hg' => hk g (List.mem_append_right _ hg')) h3, h4, fun g hg' => ⟨(h5 g hg').1, Nat.lt_of_lt_of_le (h5 g hg').2 hg.size⟩, h6⟩
  rcases hv : v.ownBlock with _ | k
  · exact .inl rfl
  · refine .inr (fun e => ?_)
    have := hr k e.symm
    have := (h1.lt k hv).1; omega
theorem GrowP.fresh (h : GrowP w base E m v n es ds us) (hb : Below w.heap.size w w') : GrowP w' base E m v n es ds us := h.grown (grown_none hb none) (fun _ e => by cases e)
theorem GrowP.alloc (h : GrowP w base E m v n es ds us) (o : Obj) : GrowP (w.alloc o) base E m v n es ds us := h.fresh ((Below.refl _ _).alloc (Nat.le_refl _) o)
theorem GrowP.set (h : GrowP w base E m v n es ds us) {g : Nat} (hg : g < base) (j : Nat) (u : Value) : GrowP (w.setCell ⟨g, j, none⟩ u) base E m v n es ds us := h.grown (set_grownL w g j u) (fun q hq => by injection hq with hq; omega)
theorem GrowP.row (h : GrowP w base E m v n es ds us) : ∃ cs, w.ownsRow base E m v n cs := by
  obtain ⟨vs, F, G, h1, _⟩ := h
  exact ⟨vs, h1⟩
theorem GrowP.part (h : GrowP w base E m v n es ds us) : OwnL w base ds us := by
  obtain ⟨vs, F, G, h1, h2, h3, h4, h5, h6⟩ := h
  exact ⟨G, (List.nodup_append.1 h4).2.1, fun g hg => h5 g (List.mem_append_right _ hg), h3⟩
/-- .. and now it has been appended -/
theorem GrowP.done {vs : List Value} {ob : Obj} {k : Nat} (h : ∃ F G, w.ownsRow base E m v n vs ∧ D.ownL w es F vs ∧ D.ownL w ds G us ∧ (F ++ G).Nodup ∧ (∀ g ∈ F ++ G, base ≤ g ∧ g < w.heap.size) ∧ ∀ g, v.ownBlock = some g → g ∉ F ++ G)
    (hown : w'.ownsRow base E m v' (n + k) (vs ++ us)) (hg : (w.alloc ob).grownBy w' v.ownBlock) (hat : v'.ownBlock = v.ownBlock ∨ v'.ownBlock = some (w.alloc ob).heap.size) : Grow w' base E m v' (n + k) (es ++ ds) := by
  obtain ⟨F, G, h1, h2, h3, h4, h5, h6⟩ := h
  have hsz : (w.alloc ob).heap.size = w.heap.size + 1 := by simp
  have hkeep : ∀ g ∈ F ++ G, w'.heap[g]? = w.heap[g]? := fun g hg' =>
    (hg.block g (by have := (h5 g hg').2; omega) (fun e => h6 g e.symm hg')).trans (Below.heap_alloc _ _ _ (h5 g hg').2)
  refine ⟨vs ++ us, F ++ G, hown, D.ownL.app (D.ownL.keep es F vs (fun g hg' => hkeep g (List.mem_append_left _ hg')) h2) (D.ownL.keep ds G us (fun g hg' => hkeep g (List.mem_append_right _ hg')) h3), h4, fun g hg' => ⟨(h5 g hg').1, Nat.lt_of_lt_of_le (h5 g hg').2 (by have := hg.size; omega)⟩, fun g hv hg' => ?_⟩
  rcases hat with hat | hat
  · exact h6 g (by rw [← hat]; exact hv) hg'
  · rw [hat] at hv
    injection hv with hv
    have := (h5 g hg').2; omega
end

end Go.Proofs.Ytegfdckejncbdaa

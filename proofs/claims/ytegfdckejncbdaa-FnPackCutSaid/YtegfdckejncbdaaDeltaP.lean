/-
  What DeltaApply computes, in plain Lean: operations that fit, what each makes of a base, and all of them together. No program in sight.
-/
import Derived.Test.YtegfdckejncbdaaBase
namespace Go.Proofs.Ytegfdckejncbdaa
set_option linter.unusedVariables false
set_option linter.unusedSimpArgs false
open Go.RowKit

structure OpD where
  at_ : Int
  size : Int
  text : ByteArray

/-- an operation's cells -/
def co (o : OpD) : List Value := [.int .i64 o.at_, .int .i64 o.size, .string o.text]
theorem co_len (o : OpD) : (co o).length = 3 := rfl

/-- whether an operation fits a base of n bytes -/
def fitB (n : Int) (o : OpD) : Bool :=
  if o.size = 0 then decide (o.at_ = 0) && inR o.text.size 1 8 else (decide (o.text.size = 0) && (inR o.size 1 n && inR o.at_ 0 (n - o.size)))
/-- what it makes -/
def outB (base : ByteArray) (o : OpD) : ByteArray := if o.size = 0 then o.text else base.extract o.at_.toNat (o.at_ + o.size).toNat
def catD (base : ByteArray) (ops : List OpD) : ByteArray := ops.foldl (fun s o => s ++ outB base o) ByteArray.empty
def fitAll (base : ByteArray) (ops : List OpD) : Bool := ops.all (fitB base.size)
def okD (base : ByteArray) (ops : List OpD) : Bool := decide (base.size ≤ 8) && decide (ops.length ≤ 8) && fitAll base ops && decide ((catD base ops).size ≤ 8)
def strD (base : ByteArray) (ops : List OpD) : ByteArray := if okD base ops = true then catD base ops else ByteArray.empty

theorem catD_snoc (base : ByteArray) (ops : List OpD) (o : OpD) : catD base (ops ++ [o]) = catD base ops ++ outB base o := by simp [catD]
theorem catD_app_size (base : ByteArray) (ops ops' : List OpD) : (catD base ops).size ≤ (catD base (ops ++ ops')).size := by
  induction ops' generalizing ops with
  | nil => simp
  | cons o ops' ih =>
    have h1 := ih (ops ++ [o])
    rw [catD_snoc, ByteArray.size_append] at h1
    rw [List.append_assoc] at h1
    simp only [List.singleton_append] at h1
    omega
theorem catD_take_size (base : ByteArray) (ops : List OpD) (k : Nat) : (catD base (ops.take k)).size ≤ (catD base ops).size := by
  have := catD_app_size base (ops.take k) (ops.drop k)
  rwa [List.take_append_drop] at this
theorem catD_take_succ (base : ByteArray) {ops : List OpD} {k : Nat} (hk : k < ops.length) : catD base (ops.take (k + 1)) = catD base (ops.take k) ++ outB base ops[k] := by
  rw [List.take_succ_eq_append_getElem hk, catD_snoc]
theorem fitAll_take_succ (base : ByteArray) {ops : List OpD} {k : Nat} (hk : k < ops.length) (h : fitAll base (ops.take k) = true) (hf : fitB base.size ops[k] = true) : fitAll base (ops.take (k + 1)) = true := by
  unfold fitAll at h ⊢
  rw [List.take_succ_eq_append_getElem hk, List.all_append, h]
  simp [hf]
theorem okD_unfit (base : ByteArray) {ops : List OpD} {k : Nat} (hk : k < ops.length) (hf : fitB base.size ops[k] = false) : okD base ops = false := by
  have : fitAll base ops = false := by
    unfold fitAll
    rw [← Bool.not_eq_true, List.all_eq_true]
    intro h
    rw [h _ (List.getElem_mem hk)] at hf; cases hf
  unfold okD; rw [this]; simp
theorem okD_long (base : ByteArray) {ops : List OpD} {k : Nat} (h : 8 < (catD base (ops.take k)).size) : okD base ops = false := by
  have := catD_take_size base ops k
  unfold okD
  rw [show decide ((catD base ops).size ≤ 8) = false from decide_eq_false (by omega)]; simp
theorem okD_big (base : ByteArray) {ops : List OpD} (h : 8 < base.size ∨ 8 < ops.length) : okD base ops = false := by
  unfold okD
  rcases h with h | h
  · rw [show decide (base.size ≤ 8) = false from decide_eq_false (by omega)]; rfl
  · rw [show decide (ops.length ≤ 8) = false from decide_eq_false (by omega)]; simp
theorem okD_yes (base : ByteArray) {ops : List OpD} (h1 : base.size ≤ 8) (h2 : ops.length ≤ 8) (h3 : fitAll base ops = true) (h4 : (catD base ops).size ≤ 8) : okD base ops = true := by
  unfold okD; simp [h1, h2, h3, h4]
theorem strD_no {base : ByteArray} {ops : List OpD} (h : okD base ops = false) : strD base ops = ByteArray.empty := by
  unfold strD; rw [h]; rfl
theorem strD_yes {base : ByteArray} {ops : List OpD} (h : okD base ops = true) : strD base ops = catD base ops := by
  unfold strD; rw [h]; rfl

theorem fitB_zero {n : Int} {o : OpD} (h : o.size = 0) : fitB n o = (decide (o.at_ = 0) && inR o.text.size 1 8) := by unfold fitB; rw [if_pos h]
theorem fitB_copy {n : Int} {o : OpD} (h : ¬ o.size = 0) : fitB n o = (decide (o.text.size = 0) && (inR o.size 1 n && inR o.at_ 0 (n - o.size))) := by unfold fitB; rw [if_neg h]
theorem outB_zero {base : ByteArray} {o : OpD} (h : o.size = 0) : outB base o = o.text := by unfold outB; rw [if_pos h]
theorem outB_copy {base : ByteArray} {o : OpD} (h : ¬ o.size = 0) : outB base o = base.extract o.at_.toNat (o.at_ + o.size).toNat := by unfold outB; rw [if_neg h]

theorem okD_and {base : ByteArray} {ops : List OpD} (h : okD base ops = true) : base.size ≤ 8 ∧ ops.length ≤ 8 ∧ fitAll base ops = true ∧ (catD base ops).size ≤ 8 := by
  unfold okD at h
  simp only [Bool.and_eq_true, decide_eq_true_eq] at h
  exact ⟨h.1.1.1, h.1.1.2, h.1.2, h.2⟩
theorem okD_size {base : ByteArray} {ops : List OpD} (h : okD base ops = true) : (strD base ops).size ≤ 8 := by
  rw [strD_yes h]; exact (okD_and h).2.2.2
theorem okD_fit {base : ByteArray} {ops : List OpD} (h : okD base ops = true) : ∀ o ∈ ops, fitB base.size o = true := by
  have := (okD_and h).2.2.1
  unfold fitAll at this
  rwa [List.all_eq_true] at this
theorem okD_nil {base : ByteArray} {ops : List OpD} (h : okD base ops = true) : okD base [] = true ∧ strD base [] = ByteArray.empty := by
  have h1 : okD base [] = true := okD_yes base (okD_and h).1 (by simp) rfl (by simp [catD])
  exact ⟨h1, by rw [strD_yes h1]; rfl⟩
theorem catD_app (base : ByteArray) (a b : List OpD) : catD base (a ++ b) = catD base a ++ catD base b := by
  induction b generalizing a with
  | nil => simp [catD]
  | cons o b ih =>
    have h1 := ih (a ++ [o])
    rw [List.append_assoc, List.singleton_append] at h1
    rw [h1, catD_snoc]
    have h2 := ih [o]
    have h3 : catD base (o :: b) = catD base [o] ++ catD base b := by
      have e : ∀ (l : List OpD) (s : ByteArray), l.foldl (fun s o => s ++ outB base o) s = s ++ catD base l := by
        intro l
        induction l with
        | nil => intro s; simp [catD]
        | cons x l ih2 =>
          intro s
          have hx := ih2 (ByteArray.empty ++ outB base x)
          simp only [catD, List.foldl_cons] at hx ⊢
          rw [ih2, hx]
          simp [catD, ByteArray.append_assoc]
      simp only [catD, List.foldl_cons, List.foldl_nil]
      rw [e]; rfl
    rw [h3, ByteArray.append_assoc]
    simp [catD]
theorem okD_part {base : ByteArray} {a b : List OpD} (h : okD base (a ++ b) = true) : okD base a = true ∧ okD base b = true ∧ strD base a ++ strD base b = strD base (a ++ b) := by
  obtain ⟨h1, h2, h3, h4⟩ := okD_and h
  unfold fitAll at h3
  rw [List.all_append, Bool.and_eq_true] at h3
  rw [catD_app, ByteArray.size_append] at h4
  rw [List.length_append] at h2
  have ha := okD_yes base h1 (by omega) (ops := a) h3.1 (by omega)
  have hb := okD_yes base h1 (by omega) (ops := b) h3.2 (by omega)
  exact ⟨ha, hb, by rw [strD_yes ha, strD_yes hb, strD_yes h, catD_app]⟩

end Go.Proofs.Ytegfdckejncbdaa

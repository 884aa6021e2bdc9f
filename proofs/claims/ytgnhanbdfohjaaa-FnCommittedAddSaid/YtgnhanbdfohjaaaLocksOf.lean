/-
  The walks of LocksValid and LocksOf of the program: the refs that a transaction has locked. Condition: lengths in reach.
-/
import Derived.Test.YtgnhanbdfohjaaaShCom
import Derived.Test.YtgnhanbdfohjaaaOpen
namespace Go.Proofs.Ytgnhanbdfohjaaa
set_option linter.unusedVariables false
set_option linter.unusedSimpArgs false
open Go.RowKit

/-- a lock: none, or a transaction -/
def lkB (n : Int) : Bool := decide (n = -1) || txB n
def lksB (xs : List Int) : Bool := xs.all lkB
def locksB (xs : List Int) : Bool := decide (xs.length = 4) && lksB xs
theorem lksB_take_succ {xs : List Int} {k : Nat} (hk : k < xs.length) (h : lksB (xs.take k) = true) (hx : lkB xs[k] = true) : lksB (xs.take (k + 1)) = true := by
  unfold lksB at h ⊢
  rw [List.take_succ_eq_append_getElem hk, List.all_append, h]; simp [hx]
theorem lksB_at {xs : List Int} {k : Nat} (hk : k < xs.length) (hx : lkB xs[k] = false) : lksB xs = false := by
  rw [← Bool.not_eq_true]
  intro h
  have := List.all_eq_true.1 h _ (List.getElem_mem hk)
  rw [hx] at this; cases this
/-- the refs that a transaction has locked, from the first one's number on -/
def lofF (i : Nat) (t : Int) : List Int → List Int
  | [] => []
  | x :: xs => if x = t then (i : Int) :: lofF (i + 1) t xs else lofF (i + 1) t xs
def lofL (xs : List Int) (t : Int) : List Int := lofF 0 t xs
theorem lofF_snoc (t x : Int) : ∀ (xs : List Int) (i : Nat), lofF i t (xs ++ [x]) = lofF i t xs ++ if x = t then [((i + xs.length : Nat) : Int)] else []
  | [], i => by simp [lofF]
  | y :: xs, i => by
    rw [List.cons_append]
    simp only [lofF]
    rw [lofF_snoc t x xs (i + 1)]
    rw [show i + 1 + xs.length = i + (y :: xs).length from by simp; omega]
    split <;> simp
theorem lofF_len (t : Int) : ∀ (xs : List Int) (i : Nat), (lofF i t xs).length ≤ xs.length
  | [], i => Nat.le_refl _
  | y :: xs, i => by
    simp only [lofF]
    have := lofF_len t xs (i + 1)
    split <;> simp <;> omega
theorem lofF_pos (t : Int) : ∀ (xs : List Int) (i : Nat), 0 < (lofF i t xs).length ↔ t ∈ xs
  | [], i => by simp [lofF]
  | y :: xs, i => by
    simp only [lofF]
    have := lofF_pos t xs (i + 1)
    by_cases h : y = t
    · rw [if_pos h]; simp [h]
    · rw [if_neg h, this]; simp [Ne.symm h]
def lofV (xs : List Int) (t : Int) : List Int := if locksB xs = true ∧ txB t = true then lofL xs t else []
theorem lofV_no {xs : List Int} {t : Int} (h : locksB xs = false ∨ txB t = false) : lofV xs t = [] := by
  unfold lofV; rw [if_neg]; rintro ⟨h1, h2⟩; rcases h with h | h <;> simp_all
theorem lofV_yes {xs : List Int} {t : Int} (h1 : locksB xs = true) (h2 : txB t = true) : lofV xs t = lofL xs t := by unfold lofV; rw [if_pos ⟨h1, h2⟩]

set_option maxHeartbeats 400000 in
theorem closL_any (x : Int) (w : World) : Calls Try.prog 60 #[.int .i64 x] w fun e w' => e = .returned (.bool (!lkB x)) ∧ w = w' := by
  by_cases h : x = -1
  · subst h
    go_enter Try.func60, Try.ntmps60
    go_wp2_with (go_at_call 38; refine (isTxn_any _ _).mono ?_; rintro e w' ⟨rfl, rfl⟩)
    go_ret
    exact ⟨rfl, rfl⟩
  · have hb : (x != -1) = true := by simpa using h
    have H : Hid (lkB x = txB x) := by
      show _ = _
      unfold lkB; rw [decide_eq_false h]; rfl
    clear h
    go_enter Try.func60, Try.ntmps60
    go_wp2_with (go_at_call 38; refine (isTxn_any _ _).mono ?_; rintro e w' ⟨rfl, rfl⟩)
    go_ret
    exact ⟨ret_bool (by rw [H.out]), rfl⟩

set_option maxHeartbeats 400000 in
theorem indexFL_any (A : Option Addr) (n c : Nat) (xs : List Int) (w : World) (lo : Nat) (hn : n ≤ 9223372036854775807) (h : FlH ci w lo A n xs) :
    Calls Try.prog 78 #[.slice A n c, .func (.func 60) #[] #[]] w fun e w' => ∃ r : Int, decide (0 ≤ r) = (!lksB xs) ∧ e = .returned (.int .i64 r) ∧ w = w' := by
  have HI := Lib.hid h
  clear h
  go_enter Try.func78, Try.ntmps78
  go_wp2
  go_loop [8] (fun i => ∃ k : Nat, k ≤ n ∧ i = .int .i64 k ∧ lksB (xs.take k) = true) (fun i => n - (intOf i).toNat)
  case atStart => exact ⟨0, Nat.zero_le _, rfl, rfl⟩
  case round =>
    obtain ⟨k, hk, rfl, hx⟩ := hrel
    have HX := Lib.hid hx
    clear hx
    by_cases hlt : k < n
    · obtain ⟨b, o, hl, rfl, _, _, hc⟩ := Fl.int HI.out hlt
      rcases hv : lkB xs[k] with _ | _
      · have HV := Lib.hid hv
        have hv2 : (!lkB xs[k]) = true := by rw [hv]; rfl
        clear hv
        go_wp2_with (go_at_call 60; refine (closL_any _ _).mono ?_; rintro e w' ⟨rfl, rfl⟩)
        go_ret
        exact ⟨k, by rw [lksB_at hl HV.out]; simp, rfl, rfl⟩
      · have HX' := Lib.hid (lksB_take_succ hl HX.out hv)
        have hv2 : (!lkB xs[k]) = false := by rw [hv]; rfl
        clear hv
        go_wp2_with (go_at_call 60; refine (closL_any _ _).mono ?_; rintro e w' ⟨rfl, rfl⟩)
        exact ⟨⟨k + 1, by omega, by go_num, HX'.out⟩, by simp [intOf]; omega⟩
    · have hkn : k = n := by omega
      subst hkn
      have hx := HX.out
      rw [List.take_of_length_le (by rw [HI.out.1]; exact Nat.le_refl _)] at hx
      have HXA := Lib.hid hx
      clear hx
      go_wp2_with fail
      go_ret
      exact ⟨-1, by rw [HXA.out]; rfl, rfl, rfl⟩

set_option maxHeartbeats 400000 in
theorem containsFL_any (A : Option Addr) (n c : Nat) (xs : List Int) (w : World) (lo : Nat) (hn : n ≤ 9223372036854775807) (h : FlH ci w lo A n xs) :
    Calls Try.prog 59 #[.slice A n c, .func (.func 60) #[] #[]] w fun e w' => e = .returned (.bool (!lksB xs)) ∧ w = w' := by
  have HI := Lib.hid h
  clear h
  go_enter Try.func59, Try.ntmps59
  go_wp2_with (go_at_call 78; refine (indexFL_any _ _ _ xs _ lo hn HI.out).mono ?_; rintro e w' ⟨r, hr, rfl, rfl⟩; have HR := Lib.hid hr; clear hr)
  go_ret
  exact ⟨ret_bool HR.out, rfl⟩

set_option maxHeartbeats 400000 in
theorem implLocks_any (A : Option Addr) (n c : Nat) (xs : List Int) (w : World) (lo : Nat) (hn : n ≤ 9223372036854775807) (h : FlH ci w lo A n xs) :
    Calls Try.prog 39 #[.slice A n c] w fun e w' => e = .returned (.bool (locksB xs)) ∧ w = w' := by
  have HI := Lib.hid h
  have HE : Hid (locksB xs = (decide (n = 4) && lksB xs)) := by
    show _ = _
    unfold locksB; rw [h.1]
  clear h
  by_cases h4 : n = 4
  · subst h4
    go_enter Try.func39, Try.ntmps39
    go_wp2_with (go_at_call 59; refine (containsFL_any _ _ _ xs _ lo hn HI.out).mono ?_; rintro e w' ⟨rfl, rfl⟩)
    go_ret
    exact ⟨ret_bool (by rw [HE.out]; simp), rfl⟩
  · have hd : ((n : Int) == 4) = false := by rw [beq_eq_false_iff_ne]; omega
    have H4 := Lib.hid h4
    clear h4
    go_enter Try.func39, Try.ntmps39
    go_wp2_with (go_at_call 59; refine (containsFL_any _ _ _ xs _ lo hn HI.out).mono ?_; rintro e w' ⟨rfl, rfl⟩)
    go_ret
    exact ⟨ret_bool (by rw [HE.out, decide_eq_false H4.out]; simp), rfl⟩

set_option maxRecDepth 100000 in
set_option maxHeartbeats 1600000 in
theorem implLocksOf_any (A : Option Addr) (n c : Nat) (xs : List Int) (t : Int) (w : World) (lo : Nat) (hn : n ≤ 1000) (h : FlH ci w lo A n xs) :
    Calls Try.prog 26 #[.slice A n c, .int .i64 t] w fun e w' => IntR (lofV xs t) w.heap.size w e w' := by
  have HI := Lib.hid h
  have hn63 : n ≤ 9223372036854775807 := by omega
  clear h
  rcases hv : locksB xs with _ | _
  · have E := Lib.hid (lofV_no (t := t) (.inl hv))
    go_enter Try.func26, Try.ntmps26
    go_wp2_with (go_at_call 39; refine (implLocks_any _ _ _ xs _ lo hn63 HI.out).mono ?_; rintro e w' ⟨rfl, rfl⟩)
    go_ret
    rw [E.out]
    exact ⟨none, 0, 0, rfl, Nat.le_refl _, by omega, FlH.nil _ _ _ _, Below.refl _ _⟩
  · rcases ht : txB t with _ | _
    · have E := Lib.hid (lofV_no (xs := xs) (.inr ht))
      go_enter Try.func26, Try.ntmps26
      go_wp2_with (first | (go_at_call 39; refine (implLocks_any _ _ _ xs _ lo hn63 HI.out).mono ?_; rintro e w' ⟨rfl, rfl⟩) | (go_at_call 38; refine (isTxn_any _ _).mono ?_; rintro e w' ⟨rfl, rfl⟩))
      go_ret
      rw [E.out]
      exact ⟨none, 0, 0, rfl, Nat.le_refl _, by omega, FlH.nil _ _ _ _, Below.refl _ _⟩
    · have E := Lib.hid (lofV_yes hv ht)
      go_enter Try.func26, Try.ntmps26
      go_wp2_with (first | (go_at_call 39; refine (implLocks_any _ _ _ xs _ lo hn63 HI.out).mono ?_; rintro e w' ⟨rfl, rfl⟩) | (go_at_call 38; refine (isTxn_any _ _).mono ?_; rintro e w' ⟨rfl, rfl⟩))
      go_loopw [5, 18] (fun v i wr => ∃ k : Nat, k ≤ n ∧ i = .int .i64 k ∧ wr.ownsRow w.heap.size 3 1 v (lofL (xs.take k) t).length ((lofL (xs.take k) t).flatMap ci) ∧ Below w.heap.size w wr) (fun _ i _ => n - (intOf i).toNat)
      case atStart => exact ⟨0, Nat.zero_le _, rfl, World.ownsRow_nil _ _ _ _, Below.refl _ _⟩
      case round =>
        obtain ⟨k, hk, rfl, hown, hbr⟩ := hrel
        have HO := Lib.hid hown
        have HB := Lib.hid hbr
        have hwsz := hbr.size
        clear hown hbr
        by_cases hlt : k < n
        · obtain ⟨b, o, hll, rfl, _, _, hc⟩ := Fl.int (HI.out.bel HB.out) hlt
          have hdl : (lofL (xs.take k) t).length ≤ k := by
            refine Nat.le_trans (lofF_len _ _ _) ?_
            rw [List.length_take]; omega
          have HS : Hid (lofL (xs.take (k + 1)) t = lofL (xs.take k) t ++ if xs[k] = t then [(k : Int)] else []) := by
            show _ = _
            unfold lofL
            rw [List.take_succ_eq_append_getElem hll, lofF_snoc, Nat.zero_add, List.length_take, Nat.min_eq_left (by omega)]
          rcases Decidable.em (xs[k] = t) with he | he
          · have hE : Hid (lofL (xs.take (k + 1)) t = lofL (xs.take k) t ++ [(k : Int)]) := by show _ = _; rw [HS.out, if_pos he]
            have hd : (xs[k] == t) = true := by simpa using he
            clear HS he
            go_wp2_with (at_builtin; go_must (refine wpList_app Try.elInt (HO.out.alloc _) (rd_new _ [.int .i64 k] _) rfl (by simp [Value.oneCell']) (by unfold maxLen; omega) (by omega) (by simp; omega) rfl rfl rfl rfl ?_); intro v' w6 hown6 hg6)
            exact ⟨⟨k + 1, by omega, by go_num, by rw [hE.out, List.length_append, List.flatMap_append]; exact hown6, (HB.out.alloc hwsz _).grown hg6 (by simp; omega) (fun q hq => (HO.out.lt q hq).1)⟩, by simp [intOf]; omega⟩
          · have hE : Hid (lofL (xs.take (k + 1)) t = lofL (xs.take k) t) := by show _ = _; rw [HS.out, if_neg he, List.append_nil]
            have hd : (xs[k] == t) = false := by simpa using he
            clear HS he
            go_wp2_with fail
            exact ⟨⟨k + 1, by omega, by go_num, by rw [hE.out]; exact HO.out, HB.out⟩, by simp [intOf]; omega⟩
        · have hkn : k = n := by omega
          subst hkn
          have hoa := HO.out
          rw [List.take_of_length_le (by rw [HI.out.1]; exact Nat.le_refl _)] at hoa
          have HOA := Lib.hid hoa
          clear hoa
          go_wp2_with fail
          go_ret
          rw [E.out]
          exact IntR.of HOA.out HB.out

end Go.Proofs.Ytgnhanbdfohjaaa

/-
  The walk of UpdatesCross of the program: whether two lists of updates have a common ref. Condition: lengths fit an int64.
-/
import Derived.Test.YtfdcoeghomeadaaRefsV
namespace Go.Proofs.Ytfdcoeghomeadaa
open Go.RowKit

def uv (u : Upd) : Value := .agg #[.int .i64 u.ref, .int .i64 u.old, .int .i64 u.new_]
/-- a closure over one captured pointer, asked for each update: it answers p and makes memory alone -/
def AskU (fn : FuncId) (gb : Nat) (p : Upd → Bool) (w : World) : Prop :=
  ∀ (u : Upd) (wr : World), Below w.heap.size w wr → Calls Try.prog fn #[uv u, .pointer (some ⟨gb, 0, none⟩)] wr fun e w' => e = .returned (.bool (p u)) ∧ Below wr.heap.size wr w'
theorem any_take {p : Upd → Bool} {us : List Upd} {k : Nat} (hk : k < us.length) (h : (us.take k).any p = false) (hu : p us[k] = false) : (us.take (k + 1)).any p = false := by
  rw [List.take_succ_eq_append_getElem hk, List.any_append, h]; simp [hu]
theorem any_at {p : Upd → Bool} {us : List Upd} {k : Nat} (hk : k < us.length) (hu : p us[k] = true) : us.any p = true := List.any_eq_true.2 ⟨_, List.getElem_mem hk, hu⟩

theorem run_fn {P : Program} {fn : FuncId} {F : Func} (h : P.funcs[fn]? = some F) (hb : F.body.isSome = true) (hn : (F.name == "runtime.NumGoroutine") = false) (args : Array Value) (w : World) : (callFunc fn args).run P w = .ok (.enter fn args) w := by
  obtain ⟨b, hb⟩ := Option.isSome_iff_exists.1 hb
  have hn' : ¬ F.name = "runtime.NumGoroutine" := by simpa using hn
  simp [callFunc, go_sem, h, hb, hn']

set_option maxRecDepth 100000 in
set_option maxHeartbeats 800000 in
theorem indexFU_any (fn : FuncId) (gb : Nat) (p : Upd → Bool) (A : Option Addr) (n c : Nat) (us : List Upd) (w : World) (lo hi : Nat) (hn : n ≤ 9223372036854775807) (hh : hi ≤ w.heap.size) (h : Fl cu w lo hi A n us) (hrun : ∀ (args : Array Value) (w : World), (callFunc fn args).run Try.prog w = .ok (.enter fn args) w) (hf : AskU fn gb p w) :
    Calls Try.prog 69 #[.slice A n c, .func (.func fn) #[] #[.pointer (some ⟨gb, 0, none⟩)]] w fun e w' => ∃ r : Int, decide (0 ≤ r) = us.any p ∧ e = .returned (.int .i64 r) ∧ Below w.heap.size w w' := by
  have HI := Lib.hid h
  have HF := Lib.hid hf
  have HR := Lib.hid hrun
  clear h hf hrun
  go_enter Try.func69, Try.ntmps69
  go_wp2
  go_loopw [8] (fun i wr => ∃ k : Nat, k ≤ n ∧ i = .int .i64 k ∧ (us.take k).any p = false ∧ Below w.heap.size w wr) (fun i _ => n - (intOf i).toNat)
  case atStart => exact ⟨0, Nat.zero_le _, rfl, rfl, Below.refl _ _⟩
  case round =>
    obtain ⟨k, hk, rfl, hx, hb⟩ := hrel
    have HX := Lib.hid hx
    have HB := Lib.hid hb
    clear hx hb
    by_cases hlt : k < n
    · obtain ⟨b, o, hll, rfl, _, hbh, hc0, hc1, hc2⟩ := fl_upd (HI.out.below HB.out hh) hlt
      have HQ : Hid (Calls Try.prog fn #[uv us[k], .pointer (some ⟨gb, 0, none⟩)] wr fun e w' => e = .returned (.bool (p us[k])) ∧ Below wr.heap.size wr w') := HF.out _ _ HB.out
      have hA : Hid (p us[k] = true → us.any p = true) := fun h => any_at hll h
      have hN : Hid (p us[k] = false → (us.take (k + 1)).any p = false) := fun h => any_take hll HX.out h
      go_wp2_with fail
      rw [HR.out]
      refine HQ.out.mono ?_
      rintro e w2 ⟨rfl, hb2⟩
      have HB2 : Hid (Below w.heap.size w w2) := HB.out.trans (hb2.mono HB.out.size)
      clear hb2
      rcases hv : p us[k] with _ | _
      · have HN := Lib.hid (hN.out hv)
        go_wp2_with fail
        exact ⟨⟨k + 1, by omega, by go_num, HN.out, HB2.out⟩, by simp [intOf]; omega⟩
      · have HA := Lib.hid (hA.out hv)
        go_wp2_with fail
        go_ret
        exact ⟨k, by rw [HA.out]; simp, rfl, HB2.out⟩
    · have hkn : k = n := by omega
      subst hkn
      go_wp2_with fail
      go_ret
      refine ⟨-1, ?_, rfl, HB.out⟩
      have := HX.out
      rw [List.take_of_length_le (by rw [HI.out.1]; exact Nat.le_refl _)] at this
      rw [this]; rfl

set_option maxHeartbeats 400000 in
theorem containsFU_any (fn : FuncId) (gb : Nat) (p : Upd → Bool) (A : Option Addr) (n c : Nat) (us : List Upd) (w : World) (lo hi : Nat) (hn : n ≤ 9223372036854775807) (hh : hi ≤ w.heap.size) (h : Fl cu w lo hi A n us) (hrun : ∀ (args : Array Value) (w : World), (callFunc fn args).run Try.prog w = .ok (.enter fn args) w) (hf : AskU fn gb p w) :
    Calls Try.prog 54 #[.slice A n c, .func (.func fn) #[] #[.pointer (some ⟨gb, 0, none⟩)]] w fun e w' => e = .returned (.bool (us.any p)) ∧ Below w.heap.size w w' := by
  have HI := Lib.hid h
  have HF := Lib.hid hf
  have HR := Lib.hid hrun
  clear h hf hrun
  go_enter Try.func54, Try.ntmps54
  go_wp2_with fail
  refine (indexFU_any fn gb p A n c us w lo hi hn hh HI.out HR.out HF.out).mono ?_
  rintro e w2 ⟨r, hr, rfl, hb2⟩
  have HR2 := Lib.hid hr
  have HB2 := Lib.hid hb2
  clear hr hb2
  go_wp2_with fail
  go_ret
  exact ⟨ret_bool HR2.out, HB2.out⟩

set_option maxHeartbeats 400000 in
theorem clos11_any (r : Int) (v : Upd) (b : Nat) (w : World) (hb : b < w.heap.size) (hc : w.cell? ⟨b, 0, none⟩ = some (.int .i64 r)) :
    Calls Try.prog 56 #[uv v, .pointer (some ⟨b, 0, none⟩)] w fun e w' => e = .returned (.bool (decide (r = v.ref))) ∧ Below w.heap.size w w' := by
  unfold uv
  go_enter Try.func56, Try.ntmps56
  go_wp2
  go_ret
  exact ⟨rfl, (Below.refl _ _).alloc (Nat.le_refl _) _⟩

set_option maxHeartbeats 400000 in
theorem clos1_any (u : Upd) (b : Nat) (B : Option Addr) (m d : Nat) (us : List Upd) (w : World) (lo hi : Nat) (hm : m ≤ 9223372036854775807) (hh : hi ≤ w.heap.size) (hb : b < w.heap.size) (hc : w.cell? ⟨b, 0, none⟩ = some (.slice B m d)) (h : Fl cu w lo hi B m us) :
    Calls Try.prog 55 #[uv u, .pointer (some ⟨b, 0, none⟩)] w fun e w' => e = .returned (.bool (us.any fun v => decide (u.ref = v.ref))) ∧ Below w.heap.size w w' := by
  have HI := Lib.hid h
  have hn := cell_of_row _ _ 0 _ _ _ (heap_alloc_new w (.cells #[.int .i64 u.ref, .int .i64 u.old, .int .i64 u.new_] 38))
  have hsz : w.heap.size < (w.alloc (.cells #[.int .i64 u.ref, .int .i64 u.old, .int .i64 u.new_] 38)).heap.size := by simp
  have HN := Lib.hid hn
  clear h hn
  unfold uv
  go_enter Try.func55, Try.ntmps55
  go_wp2_with fail
  refine (containsFU_any 56 w.heap.size (fun v => decide (u.ref = v.ref)) B m d us _ lo hi hm (Nat.le_trans hh (Nat.le_of_lt hsz)) (HI.out.alloc hh _) (run_fn Try.func56 (by kernel_rfl) (by kernel_rfl)) ?_).mono ?_
  · intro v wr hbw
    exact clos11_any u.ref v w.heap.size wr (Nat.lt_of_lt_of_le hsz hbw.size) ((hbw.cell hsz).trans HN.out)
  rintro e w2 ⟨rfl, hb2⟩
  have HB2 : Hid (Below w.heap.size w w2) := ((Below.refl _ _).alloc (Nat.le_refl _) _).trans (hb2.mono (Nat.le_of_lt hsz))
  clear hb2
  go_wp2_with fail
  go_ret
  exact ⟨rfl, HB2.out⟩

theorem cross_bad {a b : List Upd} (h : updsB a = false ∨ updsB b = false) : crossB a b = false := by
  unfold crossB
  rcases h with h | h <;> rw [h] <;> simp
theorem cross_ok {a b : List Upd} (h1 : updsB a = true) (h2 : updsB b = true) : crossB a b = a.any fun u => b.any fun v => decide (u.ref = v.ref) := by
  unfold crossB; rw [h1, h2]; simp

set_option maxHeartbeats 800000 in
theorem implCross_any (A B : Option Addr) (n c m d : Nat) (a b : List Upd) (w : World) (lo hi lo' hi' : Nat) (hn : n ≤ 9223372036854775807) (hm : m ≤ 9223372036854775807) (hh : hi ≤ w.heap.size) (hh' : hi' ≤ w.heap.size) (ha : Fl cu w lo hi A n a) (hb : Fl cu w lo' hi' B m b) :
    Calls Try.prog 33 #[.slice A n c, .slice B m d] w fun e w' => e = .returned (.bool (crossB a b)) ∧ Below w.heap.size w w' := by
  have HA := Lib.hid (ha.alloc hh (.cells #[.slice B m d] 26))
  have HB := Lib.hid (hb.alloc hh' (.cells #[.slice B m d] 26))
  have hnc := cell_of_row _ _ 0 _ _ _ (heap_alloc_new w (.cells #[.slice B m d] 26))
  have hsz : w.heap.size < (w.alloc (.cells #[.slice B m d] 26)).heap.size := by simp
  have HN : Hid ((w.alloc (.cells #[.slice B m d] 26)).cell? ⟨w.heap.size, 0, none⟩ = some (.slice B m d)) := hnc
  have hle := Nat.le_of_lt hsz
  have HW : Hid (Below w.heap.size w (w.alloc (.cells #[.slice B m d] 26))) := (Below.refl _ _).alloc (Nat.le_refl _) _
  clear ha hb hnc
  go_enter Try.func33, Try.ntmps33
  go_wp2_with fail
  refine (implUpds_any A n c a _ _ _ (Nat.le_trans hh hle) hn HA.out).mono ?_
  rintro e w2 ⟨rfl, hb2⟩
  have HB2 := Lib.hid hb2
  have HN2 : w2.cell? ⟨w.heap.size, 0, none⟩ = some (.slice B m d) := (hb2.cell hsz).trans HN.out
  have HA2 := Lib.hid (HA.out.below hb2 (Nat.le_trans hh hle))
  have HX2 := Lib.hid (HB.out.below hb2 (Nat.le_trans hh' hle))
  have hsz2 := hb2.size
  clear hb2
  rcases h1 : updsB a with _ | _
  · have hbad := Lib.hid (cross_bad (b := b) (.inl h1))
    go_wp2_with fail
    go_ret
    exact ⟨ret_bool hbad.out.symm, HW.out.trans (HB2.out.mono HW.out.size)⟩
  · go_wp2_with fail
    refine (implUpds_any B m d b _ _ _ (Nat.le_trans hh' (Nat.le_trans hle hsz2)) hm HX2.out).mono ?_
    rintro e w3 ⟨rfl, hb3⟩
    have HB3 : Hid (Below (w.alloc (.cells #[.slice B m d] 26)).heap.size (w.alloc (.cells #[.slice B m d] 26)) w3) := HB2.out.trans (hb3.mono hsz2)
    have HA3 := Lib.hid (HA2.out.below hb3 (Nat.le_trans hh (Nat.le_trans hle hsz2)))
    have HX3 := Lib.hid (HX2.out.below hb3 (Nat.le_trans hh' (Nat.le_trans hle hsz2)))
    have HN3 : Hid (w3.cell? ⟨w.heap.size, 0, none⟩ = some (.slice B m d)) := (hb3.cell (Nat.lt_of_lt_of_le hsz hsz2)).trans HN2
    have hsz3 := hb3.size
    have hle3 : w.heap.size < w3.heap.size := by omega
    clear hb3 HN2
    rcases h2 : updsB b with _ | _
    · have hbad := Lib.hid (cross_bad (a := a) (.inr h2))
      go_wp2_with fail
      go_ret
      exact ⟨ret_bool hbad.out.symm, HW.out.trans (HB3.out.mono HW.out.size)⟩
    · have hok := Lib.hid (cross_ok h1 h2)
      go_wp2_with fail
      refine (containsFU_any 55 w.heap.size (fun u => b.any fun v => decide (u.ref = v.ref)) A n c a _ lo hi hn (Nat.le_trans hh (Nat.le_of_lt hle3)) HA3.out (run_fn Try.func55 (by kernel_rfl) (by kernel_rfl)) ?_).mono ?_
      · intro u wr hbw
        exact clos1_any u w.heap.size B m d b wr _ _ hm (Nat.le_trans hh' (Nat.le_trans (Nat.le_of_lt hle3) hbw.size)) (Nat.lt_of_lt_of_le hle3 hbw.size) ((hbw.cell hle3).trans HN3.out) (HX3.out.below hbw (Nat.le_trans hh' (Nat.le_of_lt hle3)))
      rintro e w4 ⟨rfl, hb4⟩
      have HB4 : Hid (Below w.heap.size w w4) := HW.out.trans ((HB3.out.trans (hb4.mono (Nat.le_trans hsz2 hsz3))).mono hle)
      clear hb4
      go_wp2_with fail
      go_ret
      exact ⟨ret_bool hok.out.symm, HB4.out⟩

end Go.Proofs.Ytfdcoeghomeadaa

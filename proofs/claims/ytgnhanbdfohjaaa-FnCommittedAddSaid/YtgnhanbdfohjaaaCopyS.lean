/-
  The walks of copyShard and of Shard.with of the program: a shard in new memory, with a further record. Condition: lengths in reach.
-/
import Derived.Test.YtgnhanbdfohjaaaSpecJ
namespace Go.Proofs.Ytgnhanbdfohjaaa
set_option linter.unusedVariables false
set_option linter.unusedSimpArgs false
open Go.RowKit
attribute [local go_sem ↓] Go.wp_at_zero Go.wp_at_succ

theorem cr_set (a b : List RecC) (r : RecC) (B : Option Addr) (m d : Nat) (us : List Upd) : ((a ++ r :: b).flatMap cr).set (a.length * 3 + 2) (.slice B m d) = (a ++ ⟨r.kind, r.txn, B, m, d, us⟩ :: b).flatMap cr := by
  rw [List.flatMap_append, List.flatMap_append, List.flatMap_cons, List.flatMap_cons, List.set_append_right _ _ (by rw [flat_len cr 3 cr_len]; omega), flat_len cr 3 cr_len]
  rw [show a.length * 3 + 2 - a.length * 3 = 2 from by omega]
  simp [cr]
/-- the first k records have new updates, the others their old ones -/
def CopySt (w : World) (base : Nat) (v : Value) (n : Nat) (rs : List RecC) (k : Nat) : Prop :=
  ∃ qs : List RecC, qs.length = k ∧ abs qs = abs (rs.take k) ∧ w.ownsRow base 48 3 v n ((qs ++ rs.drop k).flatMap cr) ∧ ∀ q ∈ qs, RecIn w base q ∧ ApartU v q
theorem CopySt.start {w : World} {base n : Nat} {v : Value} {rs : List RecC} (h : w.ownsRow base 48 3 v n (rs.flatMap cr)) : CopySt w base v n rs 0 := ⟨[], rfl, rfl, by simpa using h, fun q hq => by cases hq⟩
theorem CopySt.fresh {w w' : World} {base n k : Nat} {v : Value} {rs : List RecC} (h : CopySt w base v n rs k) (hb : Below w.heap.size w w') : CopySt w' base v n rs k := by
  obtain ⟨qs, h1, h2, h3, h4⟩ := h
  exact ⟨qs, h1, h2, own_below h3 hb, fun q hq => ⟨(h4 q hq).1.bel hb, (h4 q hq).2⟩⟩
theorem CopySt.drewN {w : World} {base n k : Nat} {v : Value} {rs : List RecC} (h : CopySt w base v n rs k) (m : Nat) : CopySt (w.drewN m) base v n rs k := h
theorem CopySt.step {w w3 : World} {base n k g cg m d : Nat} {B : Option Addr} {rs : List RecC} (h : CopySt w base (.slice (some ⟨g, 0, none⟩) n cg) n rs k) (hk : k < rs.length) (hb : Below w.heap.size w w3) (hbase : base ≤ w.heap.size)
    (hU : FlH cu w3 w.heap.size B m rs[k].us) (hmd : m ≤ d) (hd : d ≤ 9223372036854775807) :
    CopySt (w3.setCell ⟨g, k * 3 + 2, none⟩ (.slice B m d)) base (.slice (some ⟨g, 0, none⟩) n cg) n rs (k + 1) := by
  have h0 := h
  obtain ⟨qs, h1, h2, h3, h4⟩ := h.fresh hb
  obtain ⟨qs0, _, _, h30, _⟩ := h0
  have hg := (h30.lt g rfl)
  have hst := (h3.stored (k * 3 + 2) (.slice B m d)).1
  have e1 : qs ++ rs.drop k = qs ++ rs[k] :: rs.drop (k + 1) := by rw [List.drop_eq_getElem_cons hk]
  have e2 := cr_set qs (rs.drop (k + 1)) rs[k] B m d rs[k].us
  rw [h1] at e2
  rw [e1, e2] at hst
  refine ⟨qs ++ [⟨rs[k].kind, rs[k].txn, B, m, d, rs[k].us⟩], by simp [h1], ?_, by simpa using hst, fun q hq => ?_⟩
  · rw [abs_take_succ hk, ← h2, abs_app]; rfl
  · have hap : ApartU (.slice (some ⟨g, 0, none⟩) n cg) ⟨rs[k].kind, rs[k].txn, B, m, d, rs[k].us⟩ := fun hn b o s e hv => by
      have hv' : some g = some b := hv
      injection hv' with hv'
      have h1 := hU.block hn (b := b) (o := o) (s := s.map fun _ => 0) (by rw [show B = some ⟨b, o, s⟩ from e]; rfl)
      omega
    rcases List.mem_append.1 hq with hq | hq
    · obtain ⟨hi, ha⟩ := h4 q hq
      exact ⟨⟨hi.1.grown_ne (set_grown _ _ _ _) (fun hn b o s e => ha hn b o s e), hi.2⟩, ha⟩
    · rw [List.mem_singleton] at hq
      subst hq
      exact ⟨⟨(hU.grown_ne (set_grown _ _ _ _) (fun hn b o s e => hap hn b o s e)).low hbase, hmd, hd⟩, hap⟩
theorem CopySt.done {w : World} {base n : Nat} {v : Value} {rs : List RecC} (h : CopySt w base v n rs n) (hl : rs.length = n) : ∃ qs, abs qs = abs rs ∧ RecOwn w base v n qs := by
  obtain ⟨qs, h1, h2, h3, h4⟩ := h
  rw [List.take_of_length_le (by omega)] at h2
  rw [List.drop_eq_nil_of_le (by omega), List.append_nil] at h3
  exact ⟨qs, h2, h3, h4⟩
theorem CopySt.cell {w : World} {base n k g cg : Nat} {rs : List RecC} (h : CopySt w base (.slice (some ⟨g, 0, none⟩) n cg) n rs k) (hk : k < n) (hl : rs.length = n) :
    w.cell? ⟨g, k * 3 + 2, none⟩ = some (.slice (rs[k]'(by omega)).A (rs[k]'(by omega)).n (rs[k]'(by omega)).c) ∧ w.frozen? ⟨g, k * 3 + 2, none⟩ = false := by
  obtain ⟨qs, h1, h2, h3, h4⟩ := h
  refine ⟨?_, h3.frozenAt _⟩
  rw [h3.cellAt _ (by omega)]
  have e1 : qs ++ rs.drop k = qs ++ rs[k]'(by omega) :: rs.drop (k + 1) := by rw [List.drop_eq_getElem_cons (by omega)]
  rw [e1, List.flatMap_append, List.getElem?_append_right (by rw [flat_len cr 3 cr_len, h1]; omega), flat_len cr 3 cr_len, h1, show k * 3 + 2 - k * 3 = 2 from by omega]
  rfl

set_option maxRecDepth 100000 in
set_option maxHeartbeats 3200000 in
theorem copyShard_any (A : Option Addr) (n c : Nat) (rs : List RecC) (w : World) (lo : Nat) (hn : n ≤ 1000) (hs : ∀ r ∈ rs, r.n ≤ 1000) (h : Recs w lo A n rs) :
    Calls Try.prog 42 #[.agg #[.slice A n c]] w fun e w' => ShRet (abs rs) w.heap.size w e w' := by
  have HR := Lib.hid h
  have HSH := Lib.hid hs
  have HX : Hid (((w.alloc (.cells #[.slice A n c] 25)).alloc (.cells #[.slice none 0 0] 25)).heap[w.heap.size + 1]? = some (.cells #[.slice none 0 0] 25 (0, 0))) := by
    have := heap_alloc_new (w.alloc (.cells #[.slice A n c] 25)) (.cells #[.slice none 0 0] 25)
    exact Lib.hid (by simpa using this)
  have HB0 : Hid (Below w.heap.size w ((w.alloc (.cells #[.slice A n c] 25)).alloc (.cells #[.slice none 0 0] 25))) := ((Below.refl _ _).alloc (Nat.le_refl _) _).alloc (by simp) _
  have hz : ((w.alloc (.cells #[.slice A n c] 25)).alloc (.cells #[.slice none 0 0] 25)).heap.size = w.heap.size + 1 + 1 := by simp
  clear h hs
  go_enter Try.func42, Try.ntmps42
  go_wp2_with fail
  refine (cloneRec_any A n c rs _ lo (by omega) (((HR.out.alloc _).alloc _).1)).mono ?_
  rintro e w1 ⟨v1, hown1, hb1, rfl⟩
  rw [hz] at hown1 hb1
  have HX1 : Hid (w1.heap[w.heap.size + 1]? = some (.cells #[.slice none 0 0] 25 (0, 0))) := (hb1.block _ (by omega)).trans HX.out
  have HB1 : Hid (Below w.heap.size w w1) := HB0.out.trans (hb1.mono (by omega))
  have hsz1 : w.heap.size + 1 < w1.heap.size := heap_lt HX1.out
  have HG1 : Hid ((w1.alloc (.cells #[v1] 25)).heap[w1.heap.size]? = some (.cells #[v1] 25 (0, 0))) := heap_alloc_new w1 _
  have HO1 : Hid (CopySt (w1.alloc (.cells #[v1] 25)) w.heap.size v1 n rs 0) := CopySt.start (own_base (hown1.alloc _) (by omega))
  obtain ⟨A1, c1, rfl, -, -, -⟩ := Rd.of_own hown1
  have hnil : n = 0 ∨ ∃ g, A1 = some ⟨g, 0, none⟩ ∧ w.heap.size + 1 < g ∧ g < w1.heap.size := by
    rcases Nat.eq_zero_or_pos n with h0 | h0
    · exact .inl h0
    · obtain ⟨g, cg, e, hgb, hgl, -⟩ := own_slice hown1 h0
      injection e with e _ _
      exact .inr ⟨g, e, by omega, hgl⟩
  have hz1 : (w1.alloc (.cells #[.slice A1 n c1] 25)).heap.size = w1.heap.size + 1 := by simp
  have HXA : Hid ((w1.alloc (.cells #[.slice A1 n c1] 25)).heap[w.heap.size + 1]? = some (.cells #[.slice none 0 0] 25 (0, 0))) := (Below.heap_alloc _ _ _ hsz1).trans HX1.out
  have HBA : Hid (Below w.heap.size w (w1.alloc (.cells #[.slice A1 n c1] 25))) := HB1.out.alloc (by omega) _
  clear hown1 hb1 hz
  go_wp2_with fail
  go_loopw [12] (fun i wr => ∃ k : Nat, k ≤ n ∧ i = .int .i64 k ∧ CopySt wr w.heap.size (.slice A1 n c1) n rs k ∧ wr.heap[w1.heap.size]? = some (.cells #[.slice A1 n c1] 25 (0, 0)) ∧ wr.heap[w.heap.size + 1]? = some (.cells #[.slice none 0 0] 25 (0, 0)) ∧ Below w.heap.size w wr) (fun i _ => n - (intOf i).toNat)
  case atStart => exact ⟨0, Nat.zero_le _, rfl, HO1.out, HG1.out, HXA.out, HBA.out⟩
  case round =>
    obtain ⟨k, hk, rfl, hcs, hg, hx, hb⟩ := hrel
    have HCS := Lib.hid hcs
    have HG := Lib.hid hg
    have HXR := Lib.hid hx
    have HB := Lib.hid hb
    have hgl := heap_lt hg
    have hbs := hb.size
    have k0 : wr.cell? ⟨w1.heap.size, 0, none⟩ = some (.slice A1 n c1) := cell_zero hg
    clear hcs hg hx hb HO1 HG1 HXA HBA
    by_cases hlt : k < n
    · obtain ⟨g, rfl, hg1, hg2⟩ := hnil.resolve_left (by omega)
      have hll : k < rs.length := by have := HR.out.1.1; omega
      obtain ⟨kc, kf⟩ := HCS.out.cell hlt HR.out.1.1
      have hin := HR.out.2 _ (List.getElem_mem hll)
      have HIN : Hid (FlH cu wr.drew lo rs[k].A rs[k].n rs[k].us) := ((hin.bel HB.out).1.drewN 1)
      have hrn := HSH.out _ (List.getElem_mem hll)
      have hrb := hin.2
      have hgg : g < wr.heap.size := by omega
      have hgne : ¬ (w1.heap.size = g) := by omega
      have hgne' : ¬ (g = w1.heap.size) := by omega
      clear hin
      go_wp2_with fail
      go_region_with
        (first | (go_at_call 62; (refine (cloneUpd_any rs[k].A rs[k].n rs[k].c rs[k].us _ lo (by omega) HIN.out).mono ?_); rintro e w3 ⟨v3, hown3, hb3', rfl⟩; have hb3 : Below wr.heap.size wr w3 := ⟨hb3'.os, hb3'.tape, hb3'.output, hb3'.size, hb3'.block⟩; obtain ⟨A3, c3, rfl, hc3, hcm3, hF3⟩ := own_fl cu_len (by omega) hown3; have HF3 : Hid (FlH cu w3 wr.heap.size A3 rs[k].n rs[k].us) := Lib.hid hF3; have HBL3 := Lib.hid hb3; have k30 : w3.cell? ⟨w1.heap.size, 0, none⟩ = some (.slice (some ⟨g, 0, none⟩) n c1) := (hb3.cell hgl).trans k0; have k3c : w3.cell? ⟨g, k * 3 + 2, none⟩ = some (.slice rs[k].A rs[k].n rs[k].c) := (hb3.cell hgg).trans kc; have k3f : w3.frozen? ⟨g, k * 3 + 2, none⟩ = false := (hb3.frozen hgg).trans kf; clear hb3' hb3 hown3 hF3))
      all_goals
        go_wp2_with fail
        have hbq := HBL3.out
        have HG3 : w3.heap[w1.heap.size]? = some (.cells #[.slice (some ⟨g, 0, none⟩) n c1] 25 (0, 0)) := (hbq.block _ hgl).trans HG.out
        have HX3 : w3.heap[w.heap.size + 1]? = some (.cells #[.slice none 0 0] 25 (0, 0)) := (hbq.block _ (by omega)).trans HXR.out
        refine ⟨⟨k + 1, by omega, by go_num, HCS.out.step hll hbq hbs HF3.out hc3 hcm3, (Below.heap_setCell _ _ _ _ (by simp; omega)).trans HG3, (Below.heap_setCell _ _ _ _ (by simp; omega)).trans HX3, (HB.out.trans (hbq.mono hbs)).setCell (by simp; omega) _⟩, by simp [intOf]; omega⟩
    · have hkn : k = n := by omega
      subst hkn
      obtain ⟨qs, hab, hro⟩ := HCS.out.done HR.out.1.1
      have HAB := Lib.hid hab
      have HRO := Lib.hid hro
      have kx : wr.cell? ⟨w.heap.size + 1, 0, none⟩ = some (.slice none 0 0) := cell_zero HXR.out
      have kxf : wr.frozen? ⟨w.heap.size + 1, 0, none⟩ = false := frozen_of_row _ _ _ _ _ HXR.out
      clear hab hro
      go_wp2_with fail
      exact bodyPost_ret (v := .agg #[.slice A1 k c1]) (by simp [results, Try.results42, go_sem, kx]) rfl ⟨_, k, qs, HAB.out, HRO.out.put HXR.out (by decide) (shard_no (by simp)) _ _, HB.out.setCell (by simp) _, rfl⟩

set_option maxRecDepth 100000 in
set_option maxHeartbeats 3200000 in
theorem with_any (A : Option Addr) (n c : Nat) (rs : List RecC) (r : RecC) (w : World) (lo lo' : Nat) (hn : n ≤ 999) (hs : ∀ r ∈ rs, r.n ≤ 1000) (hrn : r.n ≤ 1000) (h : Recs w lo A n rs) (hr : RecIn w lo' r) :
    Calls Try.prog 44 #[.agg #[.slice A n c], .agg #[.int .i64 r.kind, .int .i64 r.txn, .slice r.A r.n r.c]] w fun e w' => ShRet (abs rs ++ [r.ab]) w.heap.size w e w' := by
  have HR := Lib.hid h
  have HSH := Lib.hid hs
  have HI := Lib.hid hr
  have hrc := hr.2.1
  have hrm := hr.2.2
  have hBX : (((w.alloc (.cells #[.slice A n c] 25)).alloc (.cells #[.int .i64 r.kind, .int .i64 r.txn, .slice r.A r.n r.c] 48)).alloc (.cells #[.slice none 0 0] 25)).heap[w.heap.size + 1]? = some (.cells #[.int .i64 r.kind, .int .i64 r.txn, .slice r.A r.n r.c] 48 (0, 0)) := (Below.heap_alloc _ _ _ (by simp)).trans (by simpa using heap_alloc_new (w.alloc (.cells #[.slice A n c] 25)) (.cells #[.int .i64 r.kind, .int .i64 r.txn, .slice r.A r.n r.c] 48))
  have hRR : (((w.alloc (.cells #[.slice A n c] 25)).alloc (.cells #[.int .i64 r.kind, .int .i64 r.txn, .slice r.A r.n r.c] 48)).alloc (.cells #[.slice none 0 0] 25)).heap[w.heap.size + 1 + 1]? = some (.cells #[.slice none 0 0] 25 (0, 0)) := by
    simpa using heap_alloc_new ((w.alloc (.cells #[.slice A n c] 25)).alloc (.cells #[.int .i64 r.kind, .int .i64 r.txn, .slice r.A r.n r.c] 48)) (.cells #[.slice none 0 0] 25)
  have hz : (((w.alloc (.cells #[.slice A n c] 25)).alloc (.cells #[.int .i64 r.kind, .int .i64 r.txn, .slice r.A r.n r.c] 48)).alloc (.cells #[.slice none 0 0] 25)).heap.size = w.heap.size + 1 + 1 + 1 := by simp
  have HBX := Lib.hid hBX
  have HRR := Lib.hid hRR
  have HZ := Lib.hid hz
  have hb0 : Below w.heap.size w (((w.alloc (.cells #[.slice A n c] 25)).alloc (.cells #[.int .i64 r.kind, .int .i64 r.txn, .slice r.A r.n r.c] 48)).alloc (.cells #[.slice none 0 0] 25)) := (((Below.refl _ _).alloc (Nat.le_refl _) _).alloc (by simp) _).alloc (by simp; omega) _
  have HB0 := Lib.hid hb0
  clear h hs hr hBX hRR hz hb0
  go_enter Try.func44, Try.ntmps44
  go_wp2_with fail
  refine (copyShard_any A n c rs _ lo (by omega) HSH.out (((HR.out.alloc _).alloc _).alloc _)).mono ?_
  rintro e w1 ⟨v, n', rs', hab, hro, hb1, rfl⟩
  rw [HZ.out] at hro hb1
  obtain ⟨A1, c1, rfl, hn1, hm1, hrecs⟩ := hro.recs
  have hnn : n' = n := by
    have h1 := hrecs.1.1
    have h2 := HR.out.1.1
    have : (abs rs').length = (abs rs).length := by rw [hab]
    rw [abs_len, abs_len] at this; omega
  subst hnn
  have HAB := Lib.hid hab
  have HRO := Lib.hid (hro.low (base' := w.heap.size) (by omega))
  have HB1 : Hid (Below w.heap.size w w1) := HB0.out.trans (hb1.mono (by omega))
  have hbx1 : w1.heap[w.heap.size + 1]? = some (.cells #[.int .i64 r.kind, .int .i64 r.txn, .slice r.A r.n r.c] 48 (0, 0)) := (hb1.block _ (by omega)).trans HBX.out
  have HR1 : Hid (w1.heap[w.heap.size + 1 + 1]? = some (.cells #[.slice none 0 0] 25 (0, 0))) := (hb1.block _ (by omega)).trans HRR.out
  have HBX1 := Lib.hid hbx1
  have p0 : w1.cell? ⟨w.heap.size + 1, 0, none⟩ = some (.int .i64 r.kind) := cell_of_row w1 (w.heap.size + 1) 0 _ _ _ hbx1
  have p1 : w1.cell? ⟨w.heap.size + 1, 1, none⟩ = some (.int .i64 r.txn) := cell_of_row w1 (w.heap.size + 1) 1 _ _ _ hbx1
  have p2 : w1.cell? ⟨w.heap.size + 1, 2, none⟩ = some (.slice r.A r.n r.c) := cell_of_row w1 (w.heap.size + 1) 2 _ _ _ hbx1
  have pf : ∀ j, w1.frozen? ⟨w.heap.size + 1, j, none⟩ = false := fun j => frozen_of_row _ _ _ _ _ hbx1
  have hsz1 : w.heap.size + 1 + 1 + 1 ≤ w1.heap.size := by have := heap_lt HR1.out; omega
  have hl0 : w.heap.size < w1.heap.size := by omega
  have hl1 : w.heap.size + 1 < w1.heap.size := by omega
  have hl2 : w.heap.size + 1 + 1 < w1.heap.size := by omega
  have HI1 := Lib.hid ((HI.out.bel HB1.out).alloc (.cells #[.slice A1 n' c1] 25))
  have hq1 : ¬ (w1.heap.size = w.heap.size + 1) := by omega
  have hg1 := heap_alloc_new w1 (.cells #[.slice A1 n' c1] 25)
  have HG1 := Lib.hid hg1
  have hz1 : (w1.alloc (.cells #[.slice A1 n' c1] 25)).heap.size = w1.heap.size + 1 := by simp
  have HZ1 := Lib.hid hz1
  have HRO1 := Lib.hid hro
  clear hab hro hb1 hrecs hbx1 hg1 HBX HRR HZ HB0 hz1
  go_wp2_with fail
  refine (cloneUpd_any r.A r.n r.c r.us _ lo' (by omega) HI1.out.1).mono ?_
  rintro e w2 ⟨v2, hown2, hb2, rfl⟩
  rw [HZ1.out] at hown2 hb2
  obtain ⟨A2, c2, rfl, hmc2, hcm2, hU2⟩ := own_fl cu_len (by omega) hown2
  have hbel2 : Below w1.heap.size w1 w2 := ((Below.refl _ _).alloc (Nat.le_refl _) _).trans (hb2.mono (by omega))
  have hbx2 : w2.heap[w.heap.size + 1]? = some (.cells #[.int .i64 r.kind, .int .i64 r.txn, .slice r.A r.n r.c] 48 (0, 0)) := (hbel2.block _ (by omega)).trans HBX1.out
  have q0 : w2.cell? ⟨w.heap.size + 1, 0, none⟩ = some (.int .i64 r.kind) := cell_of_row w2 (w.heap.size + 1) 0 _ _ _ hbx2
  have q1 : w2.cell? ⟨w.heap.size + 1, 1, none⟩ = some (.int .i64 r.txn) := cell_of_row w2 (w.heap.size + 1) 1 _ _ _ hbx2
  have q2 : w2.cell? ⟨w.heap.size + 1, 2, none⟩ = some (.slice r.A r.n r.c) := cell_of_row w2 (w.heap.size + 1) 2 _ _ _ hbx2
  have qf : ∀ j, w2.frozen? ⟨w.heap.size + 1, j, none⟩ = false := (fun j => frozen_of_row _ _ _ _ _ hbx2)
  have hgx2 : w2.heap[w1.heap.size]? = some (.cells #[.slice A1 n' c1] 25 (0, 0)) := (hb2.block w1.heap.size (by omega)).trans HG1.out
  have hcg2 : w2.cell? ⟨w1.heap.size, 0, none⟩ = some (.slice A1 n' c1) := cell_zero hgx2
  have HGX2 := Lib.hid hgx2
  have HBL2 := Lib.hid hbel2
  have HT2 : Hid (RecOwn (w2.setCell ⟨w.heap.size + 1, 2, none⟩ (.slice A2 r.n c2)) w.heap.size (.slice A1 n' c1) n' rs') := ((HRO1.out.fresh hbel2).setLow (by omega) 2 _).low (by omega)
  have HRI : Hid (RecIn (w2.setCell ⟨w.heap.size + 1, 2, none⟩ (.slice A2 r.n c2)) w.heap.size ⟨r.kind, r.txn, A2, r.n, c2, r.us⟩) := ⟨(hU2.grown (set_grown _ _ _ _) (fun q hq => by injection hq with hq; omega)).low (by omega), hmc2, hcm2⟩
  have HAP : Hid (ApartU (.slice A1 n' c1) ⟨r.kind, r.txn, A2, r.n, c2, r.us⟩) := apart_new HRO.out.1 hU2 (by omega)
  have hsz2 : w1.heap.size < w2.heap.size := heap_lt hgx2
  have hl21 : w.heap.size + 1 < w2.heap.size := (by omega)
  have hne21 : ¬ (w.heap.size + 1 = w1.heap.size) := (by omega)
  clear hown2 hb2 hbel2 hbx2 hU2 hgx2
  go_wp2_with (at_builtin; go_must (refine wpList_app_at Try.elRec (HT2.out.1.alloc _) (rd_newn (n := w2.heap.size) (by simp) (cr ⟨r.kind, r.txn, A2, r.n, c2, r.us⟩) _) rfl (cr_one _) (by unfold maxLen; omega) (by omega) (by simp; omega) rfl rfl rfl rfl ?_); intro v5 w5 hown5 hg5 hat5; have hro5 := HT2.out.app HRI.out HAP.out rfl hown5 hg5 hat5; have HRO5 := Lib.hid hro5; obtain ⟨A5, c5, rfl, hkc5, hm5, -⟩ := hro5.recs; have hbel5 : Below w.heap.size w w5 := ((((HB1.out.trans (HBL2.out.mono (by omega))).setCell (p := ⟨w.heap.size + 1, 2, none⟩) (by simp) (.slice A2 r.n c2)).alloc (by simp; omega) (.cells (cr ⟨r.kind, r.txn, A2, r.n, c2, r.us⟩).toArray 48)).grown hg5 (by simp; omega) (fun q hq => (HT2.out.1.lt q hq).1)); have hkeep5 : ∀ (q : Nat) (arr : Array Value), q ≠ w.heap.size + 1 → w2.heap[q]? = some (.cells arr 25 (0, 0)) → w5.heap[q]? = some (.cells arr 25 (0, 0)) := (fun q arr hq hh => (hg5.block q (by simp; exact Nat.lt_succ_of_lt (heap_lt hh)) (fun e => (HT2.out.ne_blk ((Below.heap_setCell _ _ _ q (by exact fun e' => hq e')).trans hh) (by decide)) e.symm)).trans ((Below.heap_alloc _ _ _ (by simp; exact heap_lt hh)).trans ((Below.heap_setCell _ _ _ q (by exact fun e' => hq e')).trans hh))); have HG5 := Lib.hid (hkeep5 w1.heap.size _ (by omega) HGX2.out); have HR5 := Lib.hid (hkeep5 (w.heap.size + 1 + 1) _ (by omega) ((HBL2.out.block _ (by omega)).trans HR1.out)); have hcg5 : w5.cell? ⟨w1.heap.size, 0, none⟩ = some (.slice A1 n' c1) := cell_zero HG5.out; have hfg5 : w5.frozen? ⟨w1.heap.size, 0, none⟩ = false := frozen_of_row _ _ _ _ _ HG5.out; have hcr5 : w5.cell? ⟨w.heap.size + 1 + 1, 0, none⟩ = some (.slice none 0 0) := cell_zero HR5.out; have hfr5 : w5.frozen? ⟨w.heap.size + 1 + 1, 0, none⟩ = false := frozen_of_row _ _ _ _ _ HR5.out; have HB5 := Lib.hid hbel5; have hl5 : w1.heap.size < w5.heap.size := heap_lt HG5.out; have hl52 : w.heap.size + 1 + 1 < w5.heap.size := heap_lt HR5.out; clear hown5 hg5 hat5 hro5 hbel5 hkeep5)
  have HW6 : Hid (RecOwn (w5.setCell ⟨w1.heap.size, 0, none⟩ (.slice A5 (n' + 1) c5)) w.heap.size (.slice A5 (n' + 1) c5) (n' + 1) (rs' ++ [⟨r.kind, r.txn, A2, r.n, c2, r.us⟩])) := HRO5.out.put HG5.out (by decide) (shard_no (by simp)) _ _
  have HR6 : Hid ((w5.setCell ⟨w1.heap.size, 0, none⟩ (.slice A5 (n' + 1) c5)).heap[w.heap.size + 1 + 1]? = some (.cells #[.slice none 0 0] 25 (0, 0))) := (Below.heap_setCell _ _ _ _ (by simp; omega)).trans HR5.out
  have HB6 : Hid (Below w.heap.size w (w5.setCell ⟨w1.heap.size, 0, none⟩ (.slice A5 (n' + 1) c5))) := HB5.out.setCell (by simp; omega) _
  have hsh : abs (rs' ++ [⟨r.kind, r.txn, A2, r.n, c2, r.us⟩]) = abs rs ++ [r.ab] := by rw [abs_app, HAB.out]; rfl
  exact bodyPost_ret (v := .agg #[.slice A5 (n' + 1) c5]) (by simp [results, Try.results44, go_sem, hcr5]) rfl ⟨_, n' + 1, rs' ++ [⟨r.kind, r.txn, A2, r.n, c2, r.us⟩], hsh, HW6.out.put HR6.out (by decide) (shard_no (by simp)) _ _, HB6.out.setCell (by simp; omega) _, rfl⟩

end Go.Proofs.Ytgnhanbdfohjaaa

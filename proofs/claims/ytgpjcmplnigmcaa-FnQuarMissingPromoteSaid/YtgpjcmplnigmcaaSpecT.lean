/-
  The walks of the reference's l13Find and l13Copy: the place of an area; a quarantine in memory of its own. Condition: it is valid.
-/
import Derived.Test.YtgpjcmplnigmcaaSpecS
namespace Go.Proofs.Ytgpjcmplnigmcaa
set_option linter.unusedVariables false
set_option linter.unusedSimpArgs false
open Go.RowKit

/-- a load whose cell the region itself writes at its end: it is branched over -/
def loadQ (t : TypeId) (x : Operand) : Op := .load t x

/-- what the place of an area is -/
def FindR (zs : List AreaD) (t r : Int) : Prop := (r = -1 ∧ areaO zs t = none) ∨ ∃ (k : Nat) (h : k < zs.length), r = k ∧ zs[k].txn = t ∧ areaO zs t = some zs[k].objs
set_option maxRecDepth 100000 in
set_option maxHeartbeats 800000 in
theorem l13Find_any (zs : List AreaD) (t : Int) (A : Option Addr) (n c : Nat) (B : Option Addr) (m d : Nat) (w : World) (lo hi : Nat) (hh : hi ≤ w.heap.size) (ha : AscA zs) (h' : D.rd w lo hi (dAreas zs) (.slice B m d)) :
    Calls Try.prog 44 #[.agg #[.slice A n c, .slice B m d], .int .i64 t] w fun e w' => ∃ r : Int, FindR zs t r ∧ Below w.heap.size w w' ∧ e = .returned (.int .i64 r) := by
  have HN := Lib.hid h'.len.1
  have HA := Lib.hid ha
  have hn63 : m ≤ 9223372036854775807 := by have := h'.len; omega
  obtain ⟨r, hr⟩ : ∃ r, r = w.heap.size := ⟨_, rfl⟩
  obtain ⟨w1, hw1⟩ : ∃ w1, w1 = w.alloc (.cells #[.slice A n c, .slice B m d] 31) := ⟨_, rfl⟩
  have hb1 : Below w.heap.size w w1 := by rw [hw1]; exact (Below.refl _ _).alloc (Nat.le_refl _) _
  have hx1 : w1.heap[r]? = some (.cells #[.slice A n c, .slice B m d] 31 (0, 0)) := by rw [hw1, hr]; exact heap_alloc_new w _
  have HI := Lib.hid (h'.below hb1 hh)
  have HB := Lib.hid hb1
  have k1 : w1.cell? ⟨r, 1, none⟩ = some (.slice B m d) := cell_of_row _ _ _ _ _ _ hx1
  have lr := hltS hx1
  clear h' ha hb1 hx1
  go_enter Try.func44, Try.ntmps44
  go_upto_region 1 with (fail)
  rw [← hw1, ← hr]
  clear hw1 hr
  go_wp2_with fail
  go_loop [5] (fun i => ∃ k : Nat, k ≤ m ∧ i = .int .i64 k ∧ Hid (∀ j (h : j < zs.length), j < k → zs[j].txn ≠ t)) (fun i => m - (intOf i).toNat)
  case atStart => exact ⟨0, Nat.zero_le _, rfl, fun j _ h => by omega⟩
  case round =>
    obtain ⟨k, hk, rfl, HT⟩ := hrel
    by_cases hlt : k < m
    · obtain ⟨b, o, hl, A1, n1, c1, rfl, _, hbh, hc0, hc1, -⟩ := rd_Area HI.out hlt
      obtain ⟨t1, ht1⟩ : ∃ t1, t1 = zs[k].txn := ⟨_, rfl⟩
      rw [← ht1] at hc0
      by_cases he : t1 = t
      · have hd : (t1 == t) = true := by simp [he]
        have HF : Hid (FindR zs t k) := Lib.hid (.inr ⟨k, hl, rfl, by rw [← ht1]; exact he, (areaO_mem HA.out t _).2 (by
          have e : (⟨t, zs[k].objs⟩ : AreaD) = zs[k] := by rw [← he, ht1]
          rw [e]; exact List.getElem_mem hl)⟩)
        clear he ht1
        go_wp2_with fail
        go_ret
        exact ⟨k, HF.out, HB.out, rfl⟩
      · have hd : (t1 == t) = false := by simp [he]
        have HT2 : Hid (∀ j (h : j < zs.length), j < k + 1 → zs[j].txn ≠ t) := Lib.hid fun j h hj e => by
          rcases Nat.lt_or_ge j k with h1 | h1
          · exact HT.out j h h1 e
          · have : j = k := by omega
            subst this; exact he (by rw [ht1]; exact e)
        clear he ht1
        go_wp2_with fail
        go_round
        case rel => exact ⟨k + 1, by omega, by go_num, HT2⟩
        case measure => simp [intOf]; omega
    · have hkm : k = m := by omega
      subst hkm
      have HF : Hid (FindR zs t (-1)) := Lib.hid (.inl ⟨rfl, areaO_none.2 fun a ha e => by
        obtain ⟨j, hj, rfl⟩ := List.getElem_of_mem ha
        exact HT.out j hj (by rw [HN.out]; exact hj) e⟩)
      go_wp2_with fail
      go_ret
      exact ⟨-1, HF.out, HB.out, rfl⟩

/-- a quarantine in memory of its own that leaves the block o alone -/
def QuaN (w : World) (base o : Nat) (q : QuaD) (vm va : Value) : Prop :=
  ∃ Fm vs Fa, D.own w (dObjects q.main) Fm vm ∧ w.ownsRow base 69 2 va q.areas.length vs ∧ D.ownL w (q.areas.flatMap fArea) Fa vs ∧ (Fm ++ Fa).Nodup ∧ (∀ g ∈ Fm ++ Fa, base ≤ g ∧ g < w.heap.size) ∧ (∀ g, va.ownBlock = some g → g ∉ Fm ++ Fa) ∧ (∀ g ∈ Fm ++ Fa, g ≠ o) ∧ va.ownBlock ≠ some o
theorem QuaN.gen {w : World} {base o : Nat} {q : QuaD} {vm va : Value} (h : QuaN w base o q vm va) : QuaG w base q vm va := by
  obtain ⟨Fm, vs, Fa, h1, h2, h3, h4, h5, h6, -, -⟩ := h
  exact ⟨Fm, vs, Fa, h1, h2, h3, h4, h5, h6⟩
theorem QuaN.row {w : World} {base o : Nat} {q : QuaD} {vm va : Value} (h : QuaN w base o q vm va) : ∃ vs, w.ownsRow base 69 2 va q.areas.length vs := h.gen.row
theorem QuaN.ne {w : World} {base o : Nat} {q : QuaD} {vm va : Value} (h : QuaN w base o q vm va) : va.ownBlock ≠ some o := by
  obtain ⟨Fm, vs, Fa, h1, h2, h3, h4, h5, h6, h7, h8⟩ := h
  exact h8
theorem QuaN.set {w : World} {base o : Nat} {q : QuaD} {vm va : Value} (h : QuaN w base o q vm va) (j : Nat) (u : Value) : QuaN (w.setCell ⟨o, j, none⟩ u) base o q vm va := by
  obtain ⟨Fm, vs, Fa, h1, h2, h3, h4, h5, h6, h7, h8⟩ := h
  have hg := set_grownL w o j u
  have hk : ∀ g ∈ Fm ++ Fa, (w.setCell ⟨o, j, none⟩ u).heap[g]? = w.heap[g]? := fun g hg' => hg.block g (h5 g hg').2 (fun e => by injection e with e; exact h7 g hg' e)
  refine ⟨Fm, vs, Fa, D.own.keep _ _ _ (fun g hg' => hk g (List.mem_append_left _ hg')) h1, h2.kept hg ?_, D.ownL.keep _ _ _ (fun g hg' => hk g (List.mem_append_right _ hg')) h3, h4, fun g hg' => ⟨(h5 g hg').1, Nat.lt_of_lt_of_le (h5 g hg').2 hg.size⟩, h6, h7, h8⟩
  rcases hv : va.ownBlock with _ | k
  · exact .inl rfl
  · exact .inr (fun e => by injection e with e; rw [hv, ← e] at h8; exact h8 rfl)
theorem QuaN.snoc {w w2 : World} {base o : Nat} {os : List ObjD} {ys : List AreaD} {a : AreaD} {vm va v : Value} (h : QuaN w base o ⟨os, ys⟩ vm va) (hb : Below w.heap.size w w2) (hd : Own w2 w.heap.size (dObjects a.objs) v) (hbs : base ≤ w.heap.size) (ho : o < w.heap.size) :
    ∃ vs, w2.ownsRow base 69 2 va ys.length vs ∧ ∀ (ob : Obj) (va' : Value) (w3 : World), w3.ownsRow base 69 2 va' (ys.length + 1) (vs ++ [.int .i64 a.txn, v]) → (w2.alloc ob).grownBy w3 va.ownBlock → (va'.ownBlock = va.ownBlock ∨ va'.ownBlock = some (w2.alloc ob).heap.size) → QuaN w3 base o ⟨os, ys ++ [a]⟩ vm va' := by
  obtain ⟨Fm, vs, Fa, h1, h2, h3, h4, h5, h6, h7, h8⟩ := h
  obtain ⟨G, q1, q2, q3⟩ := hd
  dsimp only at h2 h3
  refine ⟨vs, own_below h2 hb, fun ob va' w3 hown hg hat => ?_⟩
  have hsz : (w2.alloc ob).heap.size = w2.heap.size + 1 := by simp
  have hk : ∀ g ∈ Fm ++ Fa, w3.heap[g]? = w.heap[g]? := fun g hg' => (hg.block g (by have := (h5 g hg').2; have := hb.size; omega) (fun e => h6 g e.symm hg')).trans ((Below.heap_alloc _ _ _ (Nat.lt_of_lt_of_le (h5 g hg').2 hb.size)).trans (hb.block g (h5 g hg').2))
  have hkG : ∀ g ∈ G, w3.heap[g]? = w2.heap[g]? := fun g hg' => (hg.block g (by have := (q2 g hg').2; omega) (fun e => by have := (h2.lt g e.symm).2; have := (q2 g hg').1; omega)).trans (Below.heap_alloc _ _ _ (q2 g hg').2)
  have hL : D.ownL w3 (fArea a) G [.int .i64 a.txn, v] := by
    have := D.ownL.cons (D.own.int w3 a.txn) (D.ownL.cons (D.own.keep _ _ _ hkG q3) (D.ownL.nil w3))
    simpa [fArea] using this
  refine ⟨Fm, vs ++ [.int .i64 a.txn, v], Fa ++ G, D.own.keep _ _ _ (fun g hg' => hk g (List.mem_append_left _ hg')) h1, by simpa using hown, ?_, ?_, ?_, ?_, ?_, ?_⟩
  · show D.ownL w3 ((ys ++ [a]).flatMap fArea) _ _
    rw [List.flatMap_append, List.flatMap_cons, List.flatMap_nil, List.append_nil]
    exact D.ownL.app (D.ownL.keep _ _ _ (fun g hg' => hk g (List.mem_append_right _ hg')) h3) hL
  · rw [← List.append_assoc]
    refine List.nodup_append.2 ⟨h4, q1, fun x hx y hy e => ?_⟩
    subst e; have := (h5 x hx).2; have := (q2 x hy).1; omega
  · intro g hg'
    have hs := hg.size
    rw [← List.append_assoc] at hg'
    rcases List.mem_append.1 hg' with hg' | hg'
    · exact ⟨(h5 g hg').1, by have := (h5 g hg').2; have := hb.size; omega⟩
    · exact ⟨by have := (q2 g hg').1; omega, by have := (q2 g hg').2; omega⟩
  · intro g hv hg'
    rw [← List.append_assoc] at hg'
    rcases hat with hat | hat
    · rw [hat] at hv
      rcases List.mem_append.1 hg' with hg' | hg'
      · exact h6 g hv hg'
      · have := (h2.lt g hv).2; have := (q2 g hg').1; omega
    · rw [hat] at hv
      injection hv with hv
      rcases List.mem_append.1 hg' with hg' | hg'
      · have := (h5 g hg').2; have := hb.size; omega
      · have := (q2 g hg').2; omega
  · intro g hg'
    rw [← List.append_assoc] at hg'
    rcases List.mem_append.1 hg' with hg' | hg'
    · exact h7 g hg'
    · have := (q2 g hg').1; omega
  · rcases hat with hat | hat
    · rw [hat]; exact h8
    · rw [hat]; intro e; injection e with e; have := hb.size; omega
theorem QuaN.begin {w w' : World} {base e o : Nat} {os : List ObjD} {vm : Value} (h : Own w base (dObjects os) vm) (hb : Below w.heap.size w w') (he : w.heap.size ≤ e) (hx : w'.heap[e]? = some (.cells #[] 69 (0, 0))) (hbs : base ≤ e) (ho : e < o) : QuaN w' base o ⟨os, []⟩ vm (.slice (some ⟨e, 0, none⟩) 0 0) := by
  obtain ⟨F, h1, h2, h3⟩ := h
  refine ⟨F, [], [], D.own.keep _ _ _ (fun g hg => hb.block g (h2 g hg).2) h3, own_nilH hx hbs, D.ownL.nil _, by simpa using h1, fun g hg => ?_, fun g hv hg => ?_, fun g hg => ?_, fun hv => ?_⟩
  · rw [List.append_nil] at hg
    exact ⟨(h2 g hg).1, Nat.lt_of_lt_of_le (h2 g hg).2 hb.size⟩
  · rw [List.append_nil] at hg
    injection hv with hv
    have := (h2 g hg).2
    dsimp only at hv
    omega
  · rw [List.append_nil] at hg
    have := (h2 g hg).2
    omega
  · injection hv with hv
    dsimp only at hv
    omega

attribute [local go_sem] loadQ
set_option maxRecDepth 100000 in
set_option maxHeartbeats 6400000 in
theorem l13Copy_any (os : List ObjD) (zs : List AreaD) (A : Option Addr) (n c : Nat) (B : Option Addr) (m d : Nat) (w : World) (lo hi : Nat) (hh : hi ≤ w.heap.size) (hv : quaB ⟨os, zs⟩ = true) (h : D.rd w lo hi (dObjects os) (.slice A n c)) (h' : D.rd w lo hi (dAreas zs) (.slice B m d)) :
    Calls Try.prog 46 #[.agg #[.slice A n c, .slice B m d]] w fun e w' => ∃ C n' dc V m' cV, QuaG w' w.heap.size ⟨os, zs⟩ (.slice C n' dc) (.slice V m' cV) ∧ Below w.heap.size w w' ∧ e = .returned (.agg #[.slice C n' dc, .slice V m' cV]) := by
  obtain ⟨⟨v1, v2⟩, v3, v4⟩ := (quaB_iff _).1 hv
  obtain ⟨s1, s2, s3⟩ := (storeB_iff _).1 v3
  dsimp only at v1 v2 v3 v4 s1 s2 s3
  have hn16 : n ≤ 16 := by have := h.len.1; omega
  have hm4 : m ≤ 4 := by have := h'.len.1; omega
  have HN := Lib.hid h.len.1
  have HM := Lib.hid h'.len.1
  have HLK : Hid (∀ o ∈ os, o.links.length ≤ 1048576) := Lib.hid fun o ho => by have := (objB_and (s1 o ho)).2.1; omega
  have HZO : Hid (∀ a ∈ zs, (∀ o ∈ a.objs, o.links.length ≤ 1048576) ∧ a.objs.length ≤ 16) := Lib.hid fun a ha => by
    obtain ⟨q1, q2, q3⟩ := (storeB_iff _).1 ((fullB_iff _).1 (v1 a ha).2).2
    exact ⟨fun o ho => by have := (objB_and (q1 o ho)).2.1; omega, q3⟩
  obtain ⟨r, hr⟩ : ∃ r, r = w.heap.size := ⟨_, rfl⟩
  obtain ⟨r2, hr2⟩ : ∃ r2, r2 = w.heap.size + 1 := ⟨_, rfl⟩
  obtain ⟨w1, hw1⟩ : ∃ w1, w1 = (w.alloc (.cells #[.slice A n c, .slice B m d] 31)).alloc (.cells #[.slice none 0 0, .slice none 0 0] 31) := ⟨_, rfl⟩
  have hb1 : Below w.heap.size w w1 := by rw [hw1]; exact ((Below.refl _ _).alloc (Nat.le_refl _) _).alloc (by simp) _
  have hx1 : w1.heap[r]? = some (.cells #[.slice A n c, .slice B m d] 31 (0, 0)) := by rw [hw1, hr]; exact (Below.heap_alloc _ _ _ (by simp)).trans (heap_alloc_new w _)
  have hx2 : w1.heap[r2]? = some (.cells #[.slice none 0 0, .slice none 0 0] 31 (0, 0)) := by
    have := heap_alloc_new (w.alloc (.cells #[.slice A n c, .slice B m d] 31)) (.cells #[.slice none 0 0, .slice none 0 0] 31)
    rw [hw1, hr2]; simpa using this
  have HBX1 : Hid (Boxes w1 r r2 A n c B m d) := Lib.hid ⟨hx1, hx2⟩
  have hrw : w.heap.size ≤ r := by omega
  have hrw2 : w.heap.size ≤ r2 := by omega
  have HRR : Hid (r ≠ r2) := Lib.hid (by omega)
  have hrs := hltS hx1
  have hrs2 := hltS hx2
  have HJ1 := Lib.hid (h.below hb1 hh)
  have HI := Lib.hid h'
  have HB1 := Lib.hid hb1
  have hh1 : hi ≤ w1.heap.size := Nat.le_trans hh hb1.size
  have hww1 := hb1.size
  obtain ⟨k0, k1, k2, k3, f0, f1, l0, l1⟩ := HBX1.out.cells
  have qr := hltS HBX1.out.1
  have qr2 := hltS HBX1.out.2
  clear h h' hv v1 v2 v3 v4 s1 s2 s3 hb1 hx1 hx2
  go_enter Try.func46, Try.ntmps46
  go_upto_region 1 with (fail)
  rw [← hw1, ← hr2, ← hr]
  clear hw1 hr hr2
  go_wp2_with fail
  refine (l1Copy_any os A n c w1 lo hi hh1 (by omega) HLK.out HJ1.out).mono ?_
  rintro e w2 ⟨C, dc, hg2, hb2, rfl⟩
  have HO2 : Hid (Own w2 w1.heap.size (dObjects os) (.slice C n dc)) := Lib.hid (by have := hg2.own; unfold dObjects; rw [← HN.out]; exact this)
  obtain ⟨w3, hw3⟩ : ∃ w3, w3 = (w2.alloc (.cells #[] 69)).alloc (.cells #[.slice C n dc, .slice (some ⟨w2.heap.size, 0, none⟩) 0 0] 31) := ⟨_, rfl⟩
  obtain ⟨o9, ho9⟩ : ∃ o9, o9 = w2.heap.size + 1 := ⟨_, rfl⟩
  obtain ⟨e9, he9⟩ : ∃ e9, e9 = w2.heap.size := ⟨_, rfl⟩
  have hb23 : Below w2.heap.size w2 w3 := by rw [hw3]; exact ((Below.refl _ _).alloc (Nat.le_refl _) _).alloc (by simp) _
  have hxe : w3.heap[e9]? = some (.cells #[] 69 (0, 0)) := by rw [hw3, he9]; exact (Below.heap_alloc _ _ _ (by simp)).trans (heap_alloc_new w2 _)
  have hxo : w3.heap[o9]? = some (.cells #[.slice C n dc, .slice (some ⟨e9, 0, none⟩) 0 0] 31 (0, 0)) := by
    have := heap_alloc_new (w2.alloc (.cells #[] 69)) (.cells #[.slice C n dc, .slice (some ⟨w2.heap.size, 0, none⟩) 0 0] 31)
    rw [hw3, ho9, he9]; simpa using this
  have hw12 := hb2.size
  have HG3 := Lib.hid (QuaN.begin (o := o9) HO2.out hb23 (by omega) hxe (by omega) (by omega))
  have HXO3 := Lib.hid hxo
  have HB3 := Lib.hid (bel_tr (bel_tr HB1.out (Nat.le_refl _) hb2) (Nat.le_refl _) hb23)
  have HBX3 := Lib.hid ((HBX1.out.fresh hb2).fresh hb23)
  have HOW : Hid (w1.heap.size < o9) := Lib.hid (by omega)
  have HOR : Hid (r ≠ o9 ∧ r2 ≠ o9) := Lib.hid (by omega)
  have hw13 : w1.heap.size ≤ w3.heap.size := Nat.le_trans hw12 hb23.size
  clear hg2 hb2 hb23 hxe hxo k0 k1 k2 k3 f0 f1 l0 l1
  go_upto_region 2 with (fail)
  rw [← hw3, ← ho9]
  clear hw3 ho9 he9
  go_wp2_with fail
  go_loopw [4] (fun i wr => ∃ (k : Nat) (va : Value), k ≤ m ∧ i = .int .i64 k ∧ Hid (QuaN wr w1.heap.size o9 ⟨os, zs.take k⟩ (.slice C n dc) va) ∧ Hid (wr.heap[o9]? = some (.cells #[.slice C n dc, va] 31 (0, 0))) ∧ Hid (Boxes wr r r2 A n c B m d) ∧ Below w.heap.size w wr ∧ w1.heap.size ≤ wr.heap.size) (fun i _ => m - (intOf i).toNat)
  case atStart => exact ⟨0, _, Nat.zero_le _, rfl, HG3, HXO3, HBX3, HB3.out, hw13⟩
  case round =>
    obtain ⟨k, va, hk, rfl, HG, HXO, HBX, hbw, hw1r⟩ := hrel
    obtain ⟨wq, hwq⟩ : ∃ wq, wq = wr := ⟨_, rfl⟩
    subst hwq
    have HB := Lib.hid hbw
    have hwsz := hbw.size
    obtain ⟨vs6, hrow6⟩ := HG.out.row
    obtain ⟨V6, c6, rfl, -, -, -⟩ := Rd.of_own hrow6
    obtain ⟨q6, hq6⟩ : ∃ q6, q6 = (zs.take k).length := ⟨_, rfl⟩
    have HQ6 := Lib.hid hq6
    have hqk : (zs.take k).length ≤ k := by simp; omega
    dsimp only at HXO HG
    have ko1 : wq.cell? ⟨o9, 1, none⟩ = some (.slice V6 (zs.take k).length c6) := cell_of_row _ _ _ _ _ _ HXO.out
    have ko0 : wq.cell? ⟨o9, 0, none⟩ = some (.slice C n dc) := cell_of_row _ _ _ _ _ _ HXO.out
    have kof1 : wq.frozen? ⟨o9, 1, none⟩ = false := frozen_of_row _ _ _ _ _ HXO.out
    have lo9 := hltS HXO.out
    rw [← hq6] at ko1 HG HXO hqk
    obtain ⟨j0, j1, j2, j3, jf0, jf1, jl0, jl1⟩ := HBX.out.cells
    clear hbw HG3 HXO3 HBX3 hrow6 hq6
    by_cases hlt : k < m
    · obtain ⟨b, o, hl, A1, n1, c1, rfl, _, hbh, hc0, hc1, ⟨hn1, hm1, hr1⟩⟩ := rd_Area (HI.out.below HB.out hh) hlt
      obtain ⟨t1, ht1⟩ : ∃ t1, t1 = zs[k].txn := ⟨_, rfl⟩
      rw [← ht1] at hc0
      have HTE := Lib.hid ht1
      have hhr : hi ≤ wq.drew.heap.size := Nat.le_trans hh hwsz
      have HRD := Lib.hid hr1.drew
      obtain ⟨hz1, hz2⟩ := HZO.out _ (List.getElem_mem hl)
      have HZ1 := Lib.hid hz1
      have hn116 : n1 ≤ 1000 := by have := hr1.len.1; omega
      have lb : b < wq.heap.size := by omega
      have qb : b < w1.heap.size := Nat.lt_of_lt_of_le hbh hh1
      have k0 := hc0
      have k1 := hc1
      have k2 := j1
      have lr := jl0
      have hlen6 : (zs.take k).length = k := by rw [List.length_take, Nat.min_eq_left (by omega)]
      have HLEN6 := Lib.hid hlen6
      have hqq : k = q6 := by rw [HQ6.out]; exact hlen6.symm
      subst hqq
      have hbo : ¬ (b = o9) := by have := HOW.out; omega
      have hro : ¬ (r = o9) := HOR.out.1
      have hbo2 : ¬ (o9 = b) := fun e => hbo e.symm
      have hro2 : ¬ (o9 = r) := fun e => hro e.symm
      clear hc0 hc1 hr1 hz1 hz2 ht1 j0 j1 jl0 hlen6
      go_upto_region 5 with (fail)
      have tok1 : True := trivial
      rw [show Op.load 29 (Operand.tmp 17) = loadQ 29 (Operand.tmp 17) from rfl]
      go_region_held_law (fun w' => w'.cell? ⟨b, o + k * 2, none⟩ = some (.int .i64 t1) ∧ w'.cell? ⟨b, o + k * 2 + 1, none⟩ = some (.slice A1 n1 c1) ∧ w'.cell? ⟨r, 1, none⟩ = some (.slice (some ⟨b, o, none⟩) m d)) (go_keep)
        (first
          | (have _t := tok1; go_at_call 86; refine (l1Copy_any zs[k].objs A1 n1 c1 wq.drew lo hi hhr hn116 HZ1.out HRD.out).mono ?_; rintro e wa ⟨Ca, dca, hga, hba', rfl⟩; have hba := below_of_drew hba'; have hoa : Own wa wq.heap.size (dObjects zs[k].objs) (.slice Ca _ dca) := (by have := hga.own; unfold dObjects; rw [← HRD.out.len.1]; exact this); obtain ⟨vs, hrowa, hdone⟩ := QuaN.snoc (a := ⟨t1, zs[k].objs⟩) HG.out hba hoa (by omega) lo9; rw [HLEN6.out] at hrowa; simp only [HLEN6.out] at hdone; have HROW := Lib.hid hrowa; have HDONE := Lib.hid hdone; have g0 : wa.cell? ⟨b, o + k * 2, none⟩ = some (.int .i64 t1) := (hba.cell lb).trans k0; have g1 : wa.cell? ⟨b, o + k * 2 + 1, none⟩ = some (.slice A1 n1 c1) := (hba.cell lb).trans k1; have g2 : wa.cell? ⟨r, 1, none⟩ = some (.slice (some ⟨b, o, none⟩) m d) := (hba.cell lr).trans k2; have o0 : wa.cell? ⟨o9, 1, none⟩ = some (.slice V6 k c6) := (hba.cell lo9).trans ko1; have of1 : wa.frozen? ⟨o9, 1, none⟩ = false := (hba.frozen lo9).trans kof1; have la9 : o9 < wa.heap.size := Nat.lt_of_lt_of_le lo9 hba.size; have HBa := Lib.hid (bel_tr HB.out (Nat.le_refl _) hba); have HFa := Lib.hid hba; have hsa := hba.size; have tok2 : True := trivial; clear tok1 hga hba hba' hoa hrowa hdone)
          | (have _t := tok2; refine step_app_at Try.elArea (m := 1) (HROW.out.alloc _) (rd_newn (n := wa.heap.size) rfl [.int .i64 t1, .slice Ca _ dca] 69) rfl (by simp [Value.oneCell']) (by have := HLEN6.out; unfold maxLen; omega) (by have := HLEN6.out; omega) (by have := HLEN6.out; first | omega | (simp; done) | (simp; omega)) rfl rfl rfl rfl ?_; intro vb wb hownb hgb hatb; have HGb := Lib.hid (HDONE.out _ _ _ hownb hgb hatb); obtain ⟨V7, c7, rfl, -, -, -⟩ := Rd.of_own hownb; have hkb : Below w1.heap.size wq wb := Below.grown ((HFa.out.mono hw1r).alloc (Nat.le_trans hw1r hsa) _) hgb (by have := Nat.le_trans hw1r hsa; first | omega | (simp; done) | (simp; omega)) (fun q hq => (HROW.out.lt q hq).1); have h0 : wb.cell? ⟨b, o + k * 2, none⟩ = some (.int .i64 t1) := (hkb.cell qb).trans k0; have h1 : wb.cell? ⟨b, o + k * 2 + 1, none⟩ = some (.slice A1 n1 c1) := (hkb.cell qb).trans k1; have h2 : wb.cell? ⟨r, 1, none⟩ = some (.slice (some ⟨b, o, none⟩) m d) := (hkb.cell qr).trans k2; have hxob : wb.heap[o9]? = some (.cells #[.slice C n dc, .slice V6 k c6] 31 (0, 0)) := (hgb.block o9 (by simp; omega) (fun e => HG.out.ne e.symm)).trans ((Below.heap_alloc wa _ _ la9).trans ((HFa.out.block o9 lo9).trans HXO.out)); have HXOb := Lib.hid hxob; have p0 := cell_of_row _ _ 1 _ _ _ hxob; have pf1 := frozen_of_row _ _ 1 _ _ hxob; have lb9 : o9 < wb.heap.size := hltS hxob; have HKb := Lib.hid hkb; clear tok2 hownb hgb hatb hkb hxob))
      all_goals
        go_wp2_with fail
        have HTK : zs.take (k + 1) = zs.take k ++ [⟨t1, zs[k].objs⟩] := by rw [List.take_succ_eq_append_getElem hl, HTE.out]
        have hgn := HGb.out.set 1 (.slice V7 (k + 1) c7)
        rw [← HTK] at hgn
        have hxn : (wb.setCell ⟨o9, 1, none⟩ (.slice V7 (k + 1) c7)).heap[o9]? = some (.cells #[.slice C n dc, .slice V7 (k + 1) c7] 31 (0, 0)) := by rw [heap_setCell_same wb o9 1 _ _ _ HXOb.out]; rfl
        have hbn : Boxes (wb.setCell ⟨o9, 1, none⟩ (.slice V7 (k + 1) c7)) r r2 A n c (some ⟨b, o, none⟩) m d := by
          have h1 : Boxes wb r r2 A n c (some ⟨b, o, none⟩) m d := ⟨(HKb.out.block r qr).trans HBX.out.1, (HKb.out.block r2 qr2).trans HBX.out.2⟩
          exact h1.grown (set_grownL wb o9 1 _) HOR.out.1 HOR.out.2
        have hbb : Below w.heap.size w (wb.setCell ⟨o9, 1, none⟩ (.slice V7 (k + 1) c7)) := (HB.out.trans (HKb.out.mono hww1)).setCell (Nat.le_trans hww1 (Nat.le_of_lt HOW.out)) _
        have hsb : w1.heap.size ≤ (wb.setCell ⟨o9, 1, none⟩ (.slice V7 (k + 1) c7)).heap.size := by have := HKb.out.size; have := (set_grownL wb o9 1 (.slice V7 (k + 1) c7)).size; omega
        go_roundw
        case rel => exact ⟨k + 1, _, by omega, by go_num, Lib.hid hgn, Lib.hid hxn, Lib.hid hbn, hbb, hsb⟩
        case measure => simp [intOf]; omega
    · have hkm : k = m := by omega
      subst hkm
      have HZK := Lib.hid (List.take_of_length_le (l := zs) (i := k) (Nat.le_of_eq HM.out.symm))
      go_wp2_with fail
      refine bodyPost_ret (v := .agg #[.slice C n dc, .slice V6 q6 c6]) (by simp [results, Try.results46, go_sem, ko0, ko1, j2, j3, jf0, jf1, HOR.out.1, HOR.out.2, HRR.out]) rfl ?_
      refine ⟨C, n, dc, V6, q6, c6, ?_, ((HB.out.setCell hrw2 _).setCell hrw2 _), rfl⟩
      have hq := HG.out.gen
      rw [HZK.out] at hq
      exact ((hq.set qr2 _ _).set qr2 _ _).low hww1

end Go.Proofs.Ytgpjcmplnigmcaa

/- Contracts of IsUnder on both sides; the lists are as each theorem states. Contracts of IsRegular on both sides; the lists are as each theorem states. Contract of the program's IsRegular; the lists are as the theorem states. Contract of the program's numbering of classes by a predicate of two places; at most 300 places. Contracts of the program's numbers of classes and their count; the monoid has at most 300 elements. -/
import Derived.Test.YtneonacdjmfaoaaHH
import Derived.Test.YtneonacdjmfaoaaGG
namespace Go.Proofs.Ytneonacdjmfaoaa
open Go.RowKit
set_option maxRecDepth 100000
set_option linter.unusedSimpArgs false
set_option linter.unusedVariables false

theorem monC_el {ms xs : List M} (h : monC ms xs = 0) : ∃ E ps, El ms xs E ps ∧ ∀ f ∈ xs, f ∈ E := by
  have hc : elC ms xs = 0 := by
    by_cases hc : elC ms xs = 0
    · exact hc
    · rw [elC_mon hc] at h; exact h
  obtain ⟨E, ps, hE⟩ := elC_el hc
  refine ⟨E, ps, hE, fun f hf => ?_⟩
  by_cases hin : f ∈ E
  · exact hin
  · have := monC_out hE.code hE.clo hf (by rw [← hE.eq]; exact hin)
    rw [this] at h; cases h
/-- two maps in a block of their own are a list -/
theorem rd_two {w : World} {f g : M} {b : Nat} (h : Blk w b 39 #[I f.p, I f.t0, I f.t1, I f.t2, I f.t3, I f.t4, I g.p, I g.t0, I g.t1, I g.t2, I g.t3, I g.t4]) : RdM w w.heap.size (some ⟨b, 0, none⟩) [f, g] := by
  refine ⟨by simp [mcs], fun _ => ⟨b, 0, rfl, h.lt, fun j u hj => ?_⟩⟩
  rw [Nat.zero_add, h.cell, ← hj, ← Array.getElem?_toList]
  simp only [mcs, List.flatMap_cons, List.flatMap_nil, List.append_nil]
  rfl
/-- f is a product with g in the middle -/
def iuR (ms : List M) (f g : M) : Bool := decide (monC ms [f, g] = 0) && decide (JJ (elR ms [f, g]) g f)

set_option maxRecDepth 100000
set_option linter.unusedSimpArgs false
set_option linter.unusedVariables false

def irgB (E : List M) (x i : Nat) : Bool := sameK E 3 i x && isIdem (gm E i)
/-- the class of f holds an idempotent -/
def irgR (ms : List M) (f : M) : Bool := decide (monC ms [f] = 0) && (List.range (elR ms [f]).length).any (irgB (elR ms [f]) (ix (elR ms [f]) f))
theorem irgB_eq (E : List M) (x i : Nat) : irgB E x i = (decide (Rel E true true (gm E x) (gm E i)) && isIdem (gm E i) && decide (Rel E true true (gm E i) (gm E x))) := by
  unfold irgB
  rw [← bothB_J]
  unfold bothB relB
  cases decide (Rel E true true (gm E i) (gm E x)) <;> cases decide (Rel E true true (gm E x) (gm E i)) <;> cases isIdem (gm E i) <;> rfl
theorem any_at {N q : Nat} {p : Nat → Bool} (hq : q < N) (h : p q = true) : (List.range N).any p = true := any_iff.2 ⟨q, hq, h⟩
theorem any_no {N : Nat} {p : Nat → Bool} (h : ∀ j, j < N → p j = false) : (List.range N).any p = false := by
  rw [← Bool.not_eq_true, any_iff]
  rintro ⟨j, hj, e⟩
  rw [h j hj] at e; cases e

set_option maxRecDepth 100000
set_option linter.unusedSimpArgs false
set_option linter.unusedVariables false

theorem sameK_comm (E : List M) (kind : Int) (i k : Nat) : sameK E kind i k = sameK E kind k i := by
  rw [Bool.eq_iff_iff]; exact ⟨sameK_symm kind, sameK_symm kind⟩

set_option maxRecDepth 100000
set_option linter.unusedSimpArgs false
set_option linter.unusedVariables false

/-- a closure that computes a predicate of two places, in all later worlds -/
def PredC2 (fn : Nat) (caps : Array Value) (N : Nat) (p : Nat → Nat → Bool) (w : World) : Prop :=
  (∀ args w, (callFunc fn args).run Try.prog w = .ok (.enter fn args) w) ∧
  ∀ w', Below w.heap.size w w' → ∀ i k, i < N → k < N → Calls Try.prog fn (#[I i, I k] ++ caps) w' fun e w'' => e = .returned (.bool (p i k)) ∧ Below w'.heap.size w' w''
def nfill (same : Nat → Nat → Bool) (n i : Nat) : List Int := (nm same i).1 ++ List.replicate (n - i) 0
section
variable {same : Nat → Nat → Bool}
theorem nfill_length {n i : Nat} (h : i ≤ n) : (nfill same n i).length = n := by simp [nfill, nm_length]; omega
theorem nfill_zero (same : Nat → Nat → Bool) (n : Nat) : nfill same n 0 = List.replicate n 0 := by simp [nfill, nm]
theorem nfill_all (same : Nat → Nat → Bool) (n : Nat) : nfill same n n = (nm same n).1 := by simp [nfill]
theorem gi_nfill {n i j : Nat} (h : j < i) : gi (nfill same n i) j = gi (nm same i).1 j := by
  unfold gi nfill
  simp [List.getD, List.getElem?_append_left (show j < (nm same i).1.length by rw [nm_length]; exact h)]
theorem nfill_set {n i : Nat} {x : Int} (h : i < n) (hx : (nm same (i + 1)).1 = (nm same i).1 ++ [x]) : (nfill same n i).set i x = nfill same n (i + 1) := by
  have hl := nm_length same i
  unfold nfill
  rw [hx, List.set_append_right _ _ (by omega), hl, Nat.sub_self]
  obtain ⟨m, hm⟩ : ∃ m, n - i = m + 1 := ⟨n - i - 1, by omega⟩
  rw [hm, show n - (i + 1) = m by omega, List.replicate_succ]
  simp

end

set_option maxHeartbeats 1000000 in
theorem numb_any (fn : Nat) (caps : Array Value) (same : Nat → Nat → Bool) (n : Nat) (w : World) (hc : PredC2 fn caps n same w) (hn : n ≤ 300) :
    Calls Try.prog 96 #[.int .i64 n, .func (.func fn) #[] caps] w fun e w' => ∃ v, e = .returned v ∧ OwI 2 w' w.heap.size v (nm same n).1 ∧ Below w.heap.size w w' := by
  obtain ⟨i, hi, hz0, hz1, hz2⟩ := info_parts infoI
  obtain ⟨eg, hc⟩ := hc
  have HC := Lib.hid hc
  clear hc
  go_enter Try.func96, Try.ntmps96
  go_wp2_with (at_make; refine wpList_make_full _ rfl _ _ _ rfl w.heap.size 2 i (.int .i64 0) 1 Try.underlying24 hi hz0 hz1 .i64 .i64 _ _ n rfl rfl rfl rfl (by rw [hz2]; omega) (by unfold maxLen; omega) (Nat.le_refl _) ?_; intro w1 hown hgr)
  have ho := madeI hown
  rw [← nfill_zero same] at ho
  have hbel : Below w.heap.size w w1 := (Below.refl _ _).grown hgr (Nat.le_refl _) (fun k hk => by cases hk)
  clear hown hgr
  go_loopw [6, 12] (fun nx i wr => ∃ j : Nat, j ≤ n ∧ i = .int .i64 j ∧ nx = I (nm same j).2 ∧ OwI 2 wr w.heap.size (.slice (some ⟨w.heap.size, 0, none⟩) n n) (nfill same n j) ∧ Below w.heap.size w wr) (fun _ i _ => n - (intOf i).toNat)
  case atStart => exact ⟨0, by omega, rfl, rfl, ho, hbel⟩
  case round =>
    clear ho hbel
    obtain ⟨j, hj, rfl, rfl, ho, hbel⟩ := hrel
    by_cases hlt : j < n
    · have hl := hbel.size
      have Hl := nm_length same j
      go_wp2_with fail
      go_loopw [8] (fun k wq => ∃ m : Nat, m ≤ j ∧ k = .int .i64 m ∧ Hid (∀ t, t < m → same t j = false) ∧ Hid (Below wr.heap.size wr wq)) (fun k _ => j - (intOf k).toNat)
      case atStart => exact ⟨0, by omega, rfl, fun t ht => absurd ht (by omega), Below.refl _ _⟩
      case round =>
        obtain ⟨m, hm, rfl, hg, Hb⟩ := hrel
        have hoq := ho.below Hb.out (Nat.le_refl _)
        have hbq := hbel.trans (Hb.out.mono hl)
        by_cases hmj : m < j
        · by_cases he : same m j = true
          · have Hk : Hid (nm same (j + 1) = ((nm same j).1 ++ [gi (nm same j).1 m], (nm same j).2)) := nm_hit hmj he hg.out
            go_wp2_with fail
            refine (HC.out _ hbq m j (by omega) (by omega)).mono ?_
            rintro e w2 ⟨rfl, hb⟩
            rw [he]
            replace hoq := hoq.below hb (Nat.le_refl _)
            replace hbq := hbq.trans (hb.mono hbq.size)
            clear hb he
            obtain ⟨c1, _⟩ := OwI.spotAt hoq (k := m) (by rw [nfill_length hj]; omega)
            obtain ⟨c2, z2, hg2, _, hst2⟩ := OwI.spotAt hoq (k := j) (by rw [nfill_length hj]; omega)
            have hst3 := hst2 (gi (nm same j).1 m)
            rw [nfill_set hlt (by rw [Hk.out])] at hst3
            rw [gi_nfill hmj] at c1
            have Hst := Lib.hid hst3
            clear hst2 hst3
            go_wp2
            go_roundw
            case rel => exact ⟨j + 1, by omega, by go_num, by rw [Hk.out], Hst.out, hbq.setCell (Nat.le_refl _) _⟩
            case measure => simp [intOf]; omega
          · have Hg : Hid (∀ t, t < m + 1 → same t j = false) := by
              intro t ht
              by_cases e : t = m
              · subst e; simpa using he
              · exact hg.out t (by omega)
            go_wp2_with fail
            refine (HC.out _ hbq m j (by omega) (by omega)).mono ?_
            rintro e w2 ⟨rfl, hb⟩
            rw [Bool.not_eq_true] at he
            rw [he]
            have Hb2 := Lib.hid (Hb.out.trans (hb.mono Hb.out.size))
            clear hb he hoq hbq
            go_wp2
            go_roundw
            case rel => exact ⟨m + 1, by omega, by go_num, Hg.out, Hb2⟩
            case measure => simp [intOf]; omega
        · have hmj2 : m = j := by omega
          subst hmj2
          have Hk : Hid (nm same (m + 1) = ((nm same m).1 ++ [(nm same m).2], (nm same m).2 + 1)) := nm_new hg.out
          obtain ⟨b1, b2⟩ := nm_bd same m
          have hwr : IntKind.i64.wrap ((nm same m).2 + 1) = (nm same m).2 + 1 := IntWalk.i64_in _ ⟨by omega, by omega⟩
          obtain ⟨c2, z2, hg2, _, hst2⟩ := OwI.spotAt hoq (k := m) (by rw [nfill_length hj]; omega)
          have hst3 := hst2 (nm same m).2
          rw [nfill_set hlt (by rw [Hk.out])] at hst3
          have Hst := Lib.hid hst3
          clear hst2 hst3
          go_wp2
          go_roundw
          case rel => exact ⟨m + 1, by omega, by go_num, by rw [Hk.out], Hst.out, hbq.setCell (Nat.le_refl _) _⟩
          case measure => simp [intOf]; omega
    · obtain rfl : j = n := by omega
      rw [nfill_all] at ho
      go_wp2
      go_ret
      exact ⟨_, rfl, ho, hbel⟩

set_option maxRecDepth 100000
set_option linter.unusedSimpArgs false
set_option linter.unusedVariables false

theorem cls1_any {d b1 b2 i k : Nat} {n kind : Int} {E : List M} (w : World) (hI : IdeAt w d E) (hE : E.length ≤ 300) (hm : Mnd n E) (hi : i < E.length) (hk : k < E.length)
    (C1 : w.cell? ⟨b1, 0, none⟩ = some (.pointer (some ⟨d, 0, none⟩))) (C2 : w.cell? ⟨b2, 0, none⟩ = some (I kind)) :
    Calls Try.prog 97 #[I i, I k, .pointer (some ⟨b1, 0, none⟩), .pointer (some ⟨b2, 0, none⟩)] w fun e w' => e = .returned (.bool (sameK E kind i k)) ∧ Below w.heap.size w w' := by
  have HI := Lib.hid hI
  have Hm := Lib.hid hm
  clear hI hm
  go_enter Try.func97, Try.ntmps97
  go_wp2_with fail
  refine (alike_any w HI.out hE Hm.out hi hk).mono ?_
  rintro e w1 ⟨rfl, hb1⟩
  go_wp2
  go_ret
  exact ⟨rfl, hb1⟩

def RetC (zs : List Int) (w : World) (e : Ending) (w' : World) : Prop := ∃ v, e = .returned v ∧ OwI 2 w' w.heap.size v zs ∧ Below w.heap.size w w'
theorem classes_any {d : Nat} {n kind : Int} {E : List M} (w : World) (hI : IdeAt w d E) (hE : E.length ≤ 300) (hm : Mnd n E) :
    Calls Try.prog 62 #[.pointer (some ⟨d, 0, none⟩), I kind] w (RetC (clsK E kind) w) := by
  obtain ⟨wb, hwb⟩ : ∃ wb, wb = (w.alloc (.cells #[.pointer (some ⟨d, 0, none⟩)] 77)).alloc (.cells #[I kind] 2) := ⟨_, rfl⟩
  have hbb : Below w.heap.size w wb := by rw [hwb]; exact ((Below.refl _ _).alloc (Nat.le_refl _) _).alloc (by simp) _
  have c1 : wb.cell? ⟨w.heap.size, 0, none⟩ = some (.pointer (some ⟨d, 0, none⟩)) := by rw [hwb]; exact (Blk.alloc (Blk.new w _ _) _).cell 0
  have c2 : wb.cell? ⟨w.heap.size + 1, 0, none⟩ = some (I kind) := by rw [hwb]; exact (Blk.new' _ _ _ (by simp)).cell 0
  have l1 := World.block_lt_of_cell? wb ⟨w.heap.size, 0, none⟩ c1
  have l2 := World.block_lt_of_cell? wb ⟨w.heap.size + 1, 0, none⟩ c2
  have hIb := hI.below hbb (Nat.le_refl _)
  have HP : Hid (PredC2 97 #[.pointer (some ⟨w.heap.size, 0, none⟩), .pointer (some ⟨w.heap.size + 1, 0, none⟩)] E.length (sameK E kind) wb) :=
    ⟨enters_of Try.func97 (by kernel_rfl) rfl, fun w' hb' i k hi hk => cls1_any w' (hIb.below hb' (Nat.le_refl _)) hE hm hi hk ((hb'.cell l1).trans c1) ((hb'.cell l2).trans c2)⟩
  obtain ⟨gl, gr, gb, hJ⟩ := hI
  have s2 := hJ.c2
  have ld := World.block_lt_of_cell? w ⟨d, 2, none⟩ s2
  have Hbb := Lib.hid hbb
  have Hwb := Lib.hid hwb
  clear hIb hbb hwb hJ
  go_enter Try.func62, Try.ntmps62
  go_wp2_with fail
  rw [← Hwb.out]
  refine (numb_any _ _ _ _ wb HP.out hE).mono ?_
  rintro e w1 ⟨v, rfl, ho, hb1⟩
  have Ho := Lib.hid (ho.mono Hbb.out.size)
  have Hb := Lib.hid (Hbb.out.trans (hb1.mono Hbb.out.size))
  obtain ⟨Av, cv, hv, _⟩ := ho.form
  clear hb1 ho
  subst hv
  go_wp2
  go_ret
  exact ⟨_, rfl, Ho.out, Hb.out⟩
end Go.Proofs.Ytneonacdjmfaoaa

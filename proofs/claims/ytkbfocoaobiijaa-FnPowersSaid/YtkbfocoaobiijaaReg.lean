/- A region that draws its order, walked once: if its last frame is one that no operation of it changes, every order ends in that frame; no conditions beyond those that each theorem states. -/
import Derived.Orders
import Derived.RegionTactic
import Derived.Below
import Derived.Test.YtkbfocoaobiijaaBase
namespace Go.Proofs.Ytkbfocoaobiijaa
open Go.RowKit

/-- the slot is written by an operation that has not been done -/
def Pending (ops : Array Oper) (listed : Array Bool) (t : Nat) : Prop := ∃ (j : Nat) (o : Oper), ops[j]? = some o ∧ o.dst = some t ∧ listed.getD j false = false

/-- what an operation looks at has been written by operations that it waits for, and it waits for earlier ones alone -/
def looksOk (ops : Array Oper) : Bool :=
  (List.range ops.size).all fun i =>
    match ops[i]? with
    | none => true
    | some o => (o.after.all fun e => !Region.binds .any e || decide (e.on < i)) &&
      (List.range ops.size).all fun j => match ops[j]? with
        | none => true
        | some p => match p.dst with
          | none => true
          | some d => !(o.looksAt ops).contains d || o.after.any fun e => Region.binds .any e && e.on == j

theorem looksOk_spec {ops : Array Oper} (h : looksOk ops = true) {i : Nat} {o : Oper} (ho : ops[i]? = some o) :
    (∀ e ∈ o.after, Region.binds .any e = true → e.on < i) ∧ ∀ (j : Nat) (p : Oper) (d : Nat), ops[j]? = some p → p.dst = some d → d ∈ o.looksAt ops → ∃ e ∈ o.after, Region.binds .any e = true ∧ e.on = j := by
  have hi : i < ops.size := (Array.getElem?_eq_some_iff.1 ho).1
  have h1 := List.all_eq_true.1 h i (List.mem_range.2 hi)
  simp only [ho, Bool.and_eq_true, Array.all_eq_true_iff_forall_mem, Bool.or_eq_true, Bool.not_eq_true', decide_eq_true_eq] at h1
  refine ⟨fun e he hb => (h1.1 e he).resolve_left (by rw [hb]; simp), fun j p d hp hd hl => ?_⟩
  have hj : j < ops.size := (Array.getElem?_eq_some_iff.1 hp).1
  have h2 := List.all_eq_true.1 h1.2 j (List.mem_range.2 hj)
  simp only [hp, hd] at h2
  rw [Bool.or_eq_true] at h2
  rcases h2 with h2 | h2
  · simp [hl] at h2
  · obtain ⟨k, hk, hb⟩ := Array.any_eq_true.1 h2
    simp only [Bool.and_eq_true, beq_iff_eq] at hb
    exact ⟨o.after[k], Array.getElem_mem hk, hb.1, hb.2⟩

section
variable {P : Program} {ops : Array Oper}

theorem upon_of {o : Oper} {a b : Act} {K K' : Act → World → Prop} {Q : Exit → Act → World → Prop} {r : Result Next}
    (h : o.upon P b K' (fun _ _ _ => False) r) (hK : ∀ v w', K' (b.put o.dst v) w' → K (a.put o.dst v) w')
    (hk : ∀ b' : Act, b'.defers ≠ b.defers → ∀ w', ¬ K' b' w') : o.upon P a K Q r := by
  cases r with
  | ok n w' =>
    cases n <;> simp only [Oper.upon] at h ⊢
    case value v => exact hK _ _ h
    case skip => exact hK _ _ h
    case enter f args =>
      refine Calls.mono h fun e w'' he => ?_
      cases e with
      | returned v => exact hK _ _ he
      | panicked ch => exact he.elim
      | outgrown => obtain ⟨_, _, hf⟩ := he; exact hf.elim
    case row row args => exact Rows.mono h fun v w'' he => hK _ _ he
    case defer d =>
      refine (hk _ ?_ _ h).elim
      intro e
      have := congrArg List.length e
      cases hdst : o.dst <;> simp [Act.put, hdst] at this
  | halt x w' => cases x <;> simp only [Oper.upon] at h ⊢

/-- the walk of a region that draws its order, where each operation need only meet the frame F in its own slot; by its last frame F (which may hang on a ghost c) -/
theorem wp_region_fixR {γ : Type} {id : Nat} {a : Act} {w : World} {Q : Exit → Act → World → Prop} (hm : P.follows .mixedOrders = true) (hns : Region.noSelect ops = true) (hlook : looksOk ops = true)
    (F : γ → Array Value) (S : Array Bool → γ → World → Prop) (c0 : γ) (hS : S (Array.replicate ops.size false) c0 w.drew)
    (hsize : ∀ c, (F c).size = a.tmps.size)
    (hsame : ∀ t, ¬ Pending ops (Array.replicate ops.size false) t → a.tmps.getD t undef = (F c0).getD t undef)
    (hop : ∀ (i : Nat) (o : Oper), ops[i]? = some o → ∀ listed c w', listed.size = ops.size → i ∈ Region.ready .any ops listed → S listed c w' →
      if Region.wanted o (yielded ops (F c)) = true then
        o.wp P ⟨F c, a.defers⟩ w' (fun a' w'' => ∃ c', (a'.defers = a.defers ∧ ∀ t, o.dst = some t → a'.tmps.getD t undef = (F c').getD t undef) ∧ S (listed.setIfInBounds i true) c' w'' ∧ ∀ t, ¬ Pending ops (listed.setIfInBounds i true) t → o.dst ≠ some t → (F c').getD t undef = (F c).getD t undef) (fun _ _ _ => False)
      else (⟨F c, a.defers⟩ : Act).put o.dst undef = ⟨F c, a.defers⟩ ∧ S (listed.setIfInBounds i true) c w')
    (hQ : ∀ listed c w', (∀ i, i < ops.size → listed.getD i false = true) → S listed c w' → Q .normal ⟨F c, a.defers⟩ w') : (Code.region id ops true).wp P Q a w := by
  refine wp_region_any hm ?_
  have main : ∀ (fuel : Nat) (listed : Array Bool) (b : Act) (w' : World) (c : γ), listed.size = ops.size → ((List.range ops.size).filter fun i => !listed.getD i false).length = fuel →
      b.defers = a.defers → b.tmps.size = a.tmps.size → (∀ t, ¬ Pending ops listed t → b.tmps.getD t undef = (F c).getD t undef) → S listed c w' → wpAny P .any ops Q fuel listed b w' := by
    intro fuel
    induction fuel with
    | zero =>
      intro listed b w' c hls hcount hbd hbs hagree hSw
      have hall : ∀ i, i < ops.size → listed.getD i false = true := by
        intro i hi
        have hnil := List.length_eq_zero_iff.1 hcount
        rw [List.filter_eq_nil_iff] at hnil
        have := hnil i (List.mem_range.2 hi)
        simpa using this
      refine ⟨?_, ?_⟩
      · rw [List.eq_nil_iff_forall_not_mem]
        intro i hi
        obtain ⟨h0, o, ho, _⟩ := mem_ready.1 hi
        have hlt : i < ops.size := (Array.getElem?_eq_some_iff.1 ho).1
        have := hall i hlt
        have hi' : i < listed.size := by omega
        simp [hi'] at h0 this
        rw [h0] at this
        cases this
      · have hb : b = ⟨F c, a.defers⟩ := by
          obtain ⟨bt, bd⟩ := b
          simp only at hbd hbs hagree
          subst hbd
          congr 1
          refine Array.ext (by rw [hbs, hsize]) fun t h1 h2 => ?_
          have := hagree t (by rintro ⟨j, o, ho, _, hl⟩; have := hall j (Array.getElem?_eq_some_iff.1 ho).1; rw [hl] at this; cases this)
          simpa [Array.getD, h1, h2] using this
        rw [hb]
        exact hQ listed c w' hall hSw
    | succ fuel ih =>
      intro listed b w' c hls hcount hbd hbs hagree hSw
      refine ⟨?_, ?_⟩
      · intro hnil
        exfalso
        -- the least operation that is not done may come up
        have hex : ∃ i, i < ops.size ∧ listed.getD i false = false := by
          have hne : ((List.range ops.size).filter fun i => !listed.getD i false) ≠ [] := by
            intro e; rw [e] at hcount; simp at hcount
          obtain ⟨i, hi⟩ := List.exists_mem_of_ne_nil _ hne
          rw [List.mem_filter, List.mem_range] at hi
          exact ⟨i, hi.1, by simpa using hi.2⟩
        obtain ⟨i, ⟨hi, hil⟩, hmin⟩ := exists_least hex
        have ho : ops[i]? = some ops[i] := Array.getElem?_eq_getElem hi
        have hmem : i ∈ Region.ready .any ops listed := by
          refine mem_ready.2 ⟨?_, ops[i], ho, fun e he hbe => ?_⟩
          · have hi' : i < listed.size := by omega
            simp [hi'] at hil ⊢; exact hil
          · have hlt := (looksOk_spec hlook ho).1 e he hbe
            cases hc : listed.getD e.on false with
            | true => rfl
            | false => exact absurd (hmin e.on ⟨by omega, hc⟩) (by omega)
        rw [hnil] at hmem
        cases hmem
      · intro i hi
        obtain ⟨h0, o, ho, hdeps⟩ := mem_ready.1 hi
        have hlt : i < ops.size := (Array.getElem?_eq_some_iff.1 ho).1
        have hil : i < listed.size := by omega
        have hi0 : listed.getD i false = false := by simp [hil] at h0 ⊢; exact h0
        have hlooks : ∀ d ∈ o.looksAt ops, ¬ Pending ops listed d := by
          rintro d hd ⟨j, p, hp, hpd, hjl⟩
          obtain ⟨e, he, hb, hej⟩ := (looksOk_spec hlook ho).2 j p d hp hpd hd
          have := hdeps e he hb
          rw [hej, hjl] at this
          cases this
        have hcount' : ((List.range ops.size).filter fun j => !(listed.setIfInBounds i true).getD j false).length = fuel := by
          have key : ∀ l : List Nat, l.Nodup → i ∈ l → (l.filter fun j => !(listed.setIfInBounds i true).getD j false).length + 1 = (l.filter fun j => !listed.getD j false).length := by
            intro l
            induction l with
            | nil => intro _ h; cases h
            | cons x xs ihl =>
              intro hnd hmem
              rw [List.nodup_cons] at hnd
              by_cases hx : x = i
              · subst hx
                have e1 : (listed.setIfInBounds x true).getD x false = true := by simp [hil]
                have e2 : (xs.filter fun j => !(listed.setIfInBounds x true).getD j false) = xs.filter fun j => !listed.getD j false := by
                  refine List.filter_congr fun j hj => ?_
                  rw [getD_set_ne false (fun e => hnd.1 (by rw [e]; exact hj))]
                rw [List.filter_cons, List.filter_cons, e1, hi0, e2]
                simp
              · have e1 : (listed.setIfInBounds i true).getD x false = listed.getD x false := getD_set_ne false (Ne.symm hx)
                have hmem' : i ∈ xs := by cases hmem with | head => exact absurd rfl hx | tail _ h => exact h
                have := ihl hnd.2 hmem'
                rw [List.filter_cons, List.filter_cons, e1]
                cases listed.getD x false <;> simp <;> simpa using this
          have := key (List.range ops.size) List.nodup_range (List.mem_range.2 hlt)
          omega
        -- the frame at hand and F agree on what the operation looks at
        have heval : ∀ x ∈ o.op.operands, b.eval x = (⟨F c, a.defers⟩ : Act).eval x := by
          intro x hx
          cases x with
          | tmp t =>
            refine hagree t (hlooks t ?_)
            exact List.mem_append_left _ (List.mem_filterMap.2 ⟨.tmp t, by simpa using hx, rfl⟩)
          | const v => rfl
          | global g => rfl
          | func f => rfl
        have hexec : execOp b.eval o = execOp (⟨F c, a.defers⟩ : Act).eval o := execOp_congr o (fun cs bb => Region.noSelect_spec hns i o cs bb ho) heval
        have hwant : Region.wanted o (yielded ops b.tmps) = Region.wanted o (yielded ops (F c)) := by
          unfold Region.wanted
          cases hg : o.guard with
          | none => rfl
          | some gw =>
            obtain ⟨g, want⟩ := gw
            have hy : yielded ops b.tmps g = yielded ops (F c) g := by
              unfold yielded
              cases ht : (ops[g]?).bind (·.dst) with
              | none => rfl
              | some t =>
                have hb := hagree t (hlooks t (by simp [Oper.looksAt, hg, ht]))
                have hsz : b.tmps.size = (F c).size := by rw [hbs, hsize]
                have : b.tmps[t]? = (F c)[t]? := by
                  by_cases h : t < b.tmps.size
                  · have h' : t < (F c).size := Nat.lt_of_lt_of_eq h hsz
                    simp [Array.getD, h, h'] at hb
                    simp [h, h', hb]
                  · rw [Array.getElem?_eq_none (Nat.le_of_not_lt h), Array.getElem?_eq_none (hsz ▸ Nat.le_of_not_lt h)]
                simp only [Option.bind_some, this]
            simp only [hy]
        -- behind the operation
        have hnext : ∀ (v : Value) (w'' : World) (c' : γ), (∀ t, o.dst = some t → ((⟨F c, a.defers⟩ : Act).put o.dst v).tmps.getD t undef = (F c').getD t undef) → (∀ t, ¬ Pending ops (listed.setIfInBounds i true) t → o.dst ≠ some t → (F c').getD t undef = (F c).getD t undef) → S (listed.setIfInBounds i true) c' w'' →
            wpAny P .any ops Q fuel (listed.setIfInBounds i true) (b.put o.dst v) w'' := by
          intro v w'' c' hput hoff hS'
          refine ih _ _ _ c' (by simpa using hls) hcount' ?_ ?_ ?_ hS'
          · cases o.dst <;> exact hbd
          · cases o.dst <;> simpa [Act.put] using hbs
          · intro t hp
            by_cases ht : o.dst = some t
            · have h1 : (b.put o.dst v).tmps.getD t undef = ((⟨F c, a.defers⟩ : Act).put o.dst v).tmps.getD t undef := by
                rw [ht]
                have hsz : b.tmps.size = (F c).size := by rw [hbs, hsize]
                simp only [Act.put, Array.getD_eq_getD_getElem?]
                by_cases h : t < b.tmps.size
                · simp [h, show t < (F c).size by omega]
                · rw [Array.getElem?_eq_none (by simp; omega), Array.getElem?_eq_none (by simp; omega)]
              rw [h1, hput t ht]
            · have h1 : (b.put o.dst v).tmps.getD t undef = b.tmps.getD t undef := by
                cases hdst : o.dst with
                | none => rfl
                | some d =>
                  have hne : d ≠ t := fun e => ht (by rw [hdst, e])
                  simp [Act.put, Array.getElem?_setIfInBounds_ne hne]
              rw [h1, hoff t hp ht]
              refine hagree t ?_
              rintro ⟨j, p, hp', hpd, hjl⟩
              refine hp ⟨j, p, hp', hpd, ?_⟩
              have hji : i ≠ j := by
                intro e; subst e
                rw [ho] at hp'; injection hp' with hp'; subst hp'; exact ht hpd
              rw [getD_set_ne false hji]; exact hjl
        have hstep := hop i o ho listed c w' hls hi hSw
        unfold wpOp
        simp only [ho]
        rw [hwant]
        split
        · rename_i hw
          rw [if_pos hw] at hstep
          refine .inl ?_
          unfold Oper.wp at hstep ⊢
          rw [hexec]
          refine upon_of hstep ?_ ?_
          · rintro v w'' ⟨c', he, hS', hoff⟩
            exact hnext v w'' c' he.2 hoff hS'
          · rintro b' hb' w'' ⟨c', he, _⟩
            exact hb' he.1
        · rename_i hw
          rw [if_neg hw] at hstep
          exact hnext undef w' c (fun _ _ => by rw [hstep.1]) (fun _ _ _ => rfl) hstep.2
  refine main ops.size (Array.replicate ops.size false) a w.drew c0 (by simp) ?_ rfl rfl hsame hS
  rw [List.filter_eq_self.2]
  · simp
  · intro i hi
    simp at hi
    simp [hi]

/-- the walk of a region that draws its order, by its last frame F (which may hang on a ghost c) -/
theorem wp_region_fix {γ : Type} {id : Nat} {a : Act} {w : World} {Q : Exit → Act → World → Prop} (hm : P.follows .mixedOrders = true) (hns : Region.noSelect ops = true) (hlook : looksOk ops = true)
    (F : γ → Array Value) (S : Array Bool → γ → World → Prop) (c0 : γ) (hS : S (Array.replicate ops.size false) c0 w.drew)
    (hsize : ∀ c, (F c).size = a.tmps.size)
    (hsame : ∀ t, ¬ Pending ops (Array.replicate ops.size false) t → a.tmps.getD t undef = (F c0).getD t undef)
    (hop : ∀ (i : Nat) (o : Oper), ops[i]? = some o → ∀ listed c w', listed.size = ops.size → i ∈ Region.ready .any ops listed → S listed c w' →
      if Region.wanted o (yielded ops (F c)) = true then
        o.wp P ⟨F c, a.defers⟩ w' (fun a' w'' => ∃ c', a' = ⟨F c', a.defers⟩ ∧ S (listed.setIfInBounds i true) c' w'' ∧ ∀ t, ¬ Pending ops (listed.setIfInBounds i true) t → o.dst ≠ some t → (F c').getD t undef = (F c).getD t undef) (fun _ _ _ => False)
      else (⟨F c, a.defers⟩ : Act).put o.dst undef = ⟨F c, a.defers⟩ ∧ S (listed.setIfInBounds i true) c w')
    (hQ : ∀ listed c w', (∀ i, i < ops.size → listed.getD i false = true) → S listed c w' → Q .normal ⟨F c, a.defers⟩ w') : (Code.region id ops true).wp P Q a w := by
  refine wp_region_fixR hm hns hlook F S c0 hS hsize hsame ?_ hQ
  intro i o ho listed c w' h1 h2 h3
  have h := hop i o ho listed c w' h1 h2 h3
  split
  · rename_i hw
    rw [if_pos hw] at h
    unfold Oper.wp at h ⊢
    refine upon_of h ?_ ?_
    · rintro v w'' ⟨c', e, s, b⟩
      exact ⟨c', ⟨by rw [e], fun _ _ => by rw [e]⟩, s, b⟩
    · rintro b hb w'' ⟨c', e, _⟩
      exact hb (by rw [e])
  · rename_i hw
    rw [if_neg hw] at h
    exact h

/-- the operation leaves the frame F as it is, in every world with S -/
def Fix (P : Program) (ops : Array Oper) (S : World → Prop) (F : Array Value) (D : List Deferred) (o : Oper) : Prop :=
  if Region.wanted o (yielded ops F) = true then ∀ w, S w → o.wp P ⟨F, D⟩ w (fun a' w' => a' = ⟨F, D⟩ ∧ S w' ∧ Below w.heap.size w w') (fun _ _ _ => False)
  else (⟨F, D⟩ : Act).put o.dst undef = ⟨F, D⟩

theorem Fix.of {S : World → Prop} {F : Array Value} {D : List Deferred} {o : Oper} (hg : o.guard = none)
    (h : ∀ w, S w → o.wp P ⟨F, D⟩ w (fun a' w' => a' = ⟨F, D⟩ ∧ S w' ∧ Below w.heap.size w w') (fun _ _ _ => False)) : Fix P ops S F D o := by
  unfold Fix
  rw [if_pos (by simp [Region.wanted, hg])]
  exact h

/-- a guarded operation that is wanted -/
theorem Fix.on {S : World → Prop} {F : Array Value} {D : List Deferred} {o : Oper} (hg : Region.wanted o (yielded ops F) = true)
    (h : ∀ w, S w → o.wp P ⟨F, D⟩ w (fun a' w' => a' = ⟨F, D⟩ ∧ S w' ∧ Below w.heap.size w w') (fun _ _ _ => False)) : Fix P ops S F D o := by
  unfold Fix
  rw [if_pos hg]
  exact h
/-- a guarded operation that is passed over -/
theorem Fix.off {S : World → Prop} {F : Array Value} {D : List Deferred} {o : Oper} (hg : Region.wanted o (yielded ops F) = false)
    (h : (⟨F, D⟩ : Act).put o.dst undef = ⟨F, D⟩) : Fix P ops S F D o := by
  unfold Fix
  rw [if_neg (by rw [hg]; simp)]
  exact h

/-- each operation of the list but those that skip names -/
@[reducible] def FixL (P : Program) (ops : Array Oper) (S : World → Prop) (F : Array Value) (D : List Deferred) (skip : Nat → Bool) : Nat → List Oper → Prop
  | _, [] => True
  | k, o :: os => (skip k = true ∨ Fix P ops S F D o) ∧ FixL P ops S F D skip (k + 1) os
theorem FixL.get {S : World → Prop} {F : Array Value} {D : List Deferred} {skip : Nat → Bool} : ∀ (l : List Oper) (k : Nat), FixL P ops S F D skip k l → ∀ (i : Nat) (o : Oper), l[i]? = some o → skip (k + i) = false → Fix P ops S F D o
  | [], _, _, i, o, h, _ => by simp at h
  | p :: l, k, hl, 0, o, h, hs => by
    simp at h; subst h
    rcases hl.1 with h1 | h1
    · simp [h1] at hs
    · exact h1
  | p :: l, k, hl, i + 1, o, h, hs => FixL.get l (k + 1) hl.2 i o (by simpa using h) (by rw [← hs]; congr 1; omega)

/-- the same, where S stays in every world that keeps what stood: then nothing need be said of S -/
def FixB (P : Program) (ops : Array Oper) (S : World → Prop) (F : Array Value) (D : List Deferred) (o : Oper) : Prop :=
  if Region.wanted o (yielded ops F) = true then ∀ w, S w → o.wp P ⟨F, D⟩ w (fun a' w' => a' = ⟨F, D⟩ ∧ Below w.heap.size w w') (fun _ _ _ => False)
  else (⟨F, D⟩ : Act).put o.dst undef = ⟨F, D⟩
theorem FixB.of {S : World → Prop} {F : Array Value} {D : List Deferred} {o : Oper} (hg : o.guard = none)
    (h : ∀ w, S w → o.wp P ⟨F, D⟩ w (fun a' w' => a' = ⟨F, D⟩ ∧ Below w.heap.size w w') (fun _ _ _ => False)) : FixB P ops S F D o := by
  unfold FixB
  rw [if_pos (by simp [Region.wanted, hg])]
  exact h
theorem FixB.on {S : World → Prop} {F : Array Value} {D : List Deferred} {o : Oper} (hg : Region.wanted o (yielded ops F) = true)
    (h : ∀ w, S w → o.wp P ⟨F, D⟩ w (fun a' w' => a' = ⟨F, D⟩ ∧ Below w.heap.size w w') (fun _ _ _ => False)) : FixB P ops S F D o := by
  unfold FixB
  rw [if_pos hg]
  exact h
theorem FixB.off {S : World → Prop} {F : Array Value} {D : List Deferred} {o : Oper} (hg : Region.wanted o (yielded ops F) = false)
    (h : (⟨F, D⟩ : Act).put o.dst undef = ⟨F, D⟩) : FixB P ops S F D o := by
  unfold FixB
  rw [if_neg (by rw [hg]; simp)]
  exact h
theorem FixB.fix {S : World → Prop} {F : Array Value} {D : List Deferred} {o : Oper} (hst : ∀ w' w'', S w' → Below w'.heap.size w' w'' → S w'') (h : FixB P ops S F D o) : Fix P ops S F D o := by
  unfold FixB at h
  unfold Fix
  split
  · rename_i hw
    rw [if_pos hw] at h
    intro w hS
    have h' := h w hS
    unfold Oper.wp at h' ⊢
    refine upon_of (K' := fun a' w' => a' = ⟨F, D⟩ ∧ Below w.heap.size w w') h' ?_ ?_
    · rintro v w'' ⟨e, b⟩
      exact ⟨e, hst _ _ hS b, b⟩
    · rintro b hb w'' ⟨e, _⟩
      exact hb (by rw [e])
  · rename_i hw
    rw [if_neg hw] at h
    exact h
@[reducible] def FixBL (P : Program) (ops : Array Oper) (S : World → Prop) (F : Array Value) (D : List Deferred) (skip : Nat → Bool) : Nat → List Oper → Prop
  | _, [] => True
  | k, o :: os => (skip k = true ∨ FixB P ops S F D o) ∧ FixBL P ops S F D skip (k + 1) os
theorem FixBL.toL {S : World → Prop} {F : Array Value} {D : List Deferred} {skip : Nat → Bool} (hst : ∀ w' w'', S w' → Below w'.heap.size w' w'' → S w'') : ∀ (l : List Oper) (k : Nat), FixBL P ops S F D skip k l → FixL P ops S F D skip k l
  | [], _, _ => trivial
  | _ :: l, k, h => ⟨h.1.imp id (FixB.fix hst), FixBL.toL hst l (k + 1) h.2⟩

def putAll : List Oper → List Value → Array Value → Array Value
  | o :: os, v :: vs, A => putAll os vs (match o.dst with | some d => A.setIfInBounds d v | none => A)
  | _, _, A => A
theorem size_putAll : ∀ (os : List Oper) (vs : List Value) (A : Array Value), (putAll os vs A).size = A.size
  | [], _, _ => by simp [putAll]
  | _ :: _, [], _ => by simp [putAll]
  | o :: os, v :: vs, A => by
    rw [putAll, size_putAll os vs]
    cases o.dst <;> simp
theorem putAll_same : ∀ (os : List Oper) (vs : List Value) (A : Array Value) (t : Nat), (∀ o ∈ os, o.dst ≠ some t) → (putAll os vs A).getD t undef = A.getD t undef
  | [], _, _, _, _ => by simp [putAll]
  | _ :: _, [], _, _, _ => by simp [putAll]
  | o :: os, v :: vs, A, t, h => by
    rw [putAll, putAll_same os vs _ t fun p hp => h p (List.mem_cons_of_mem _ hp)]
    have := h o List.mem_cons_self
    cases hd : o.dst with
    | none => rfl
    | some d =>
      have hne : d ≠ t := fun e => this (by rw [hd, e])
      simp [Array.getElem?_setIfInBounds_ne hne]

theorem not_pending {t : Nat} (h : ¬ Pending ops (Array.replicate ops.size false) t) : ∀ o ∈ ops.toList, o.dst ≠ some t := by
  intro o ho hd
  obtain ⟨j, hj, he⟩ := List.getElem_of_mem ho
  have hj' : j < ops.size := by simpa using hj
  refine h ⟨j, o, ?_, hd, ?_⟩
  · rw [Array.getElem?_eq_getElem hj']; simpa using he
  · simp [hj']

/-- every order of a region whose operations only read, compute and call -/
theorem wp_region_same {id : Nat} {a : Act} {w : World} {Q : Exit → Act → World → Prop} (D : List Deferred) (hD : a.defers = D) (hm : P.follows .mixedOrders = true) (hns : Region.noSelect ops = true) (hlook : looksOk ops = true)
    (S : World → Prop) (F : Array Value) (vs : List Value) (hF : putAll ops.toList vs a.tmps = F) (hS : S w.drew)
    (hop : FixL P ops S F D (fun _ => false) 0 ops.toList)
    (hQ : ∀ w', S w' → Below w.heap.size w w' → Q .normal ⟨F, D⟩ w') : (Code.region id ops true).wp P Q a w := by
  subst hD
  refine wp_region_fix hm hns hlook (γ := Unit) (fun _ => F) (fun _ _ w' => S w' ∧ Below w.heap.size w w') () ⟨hS, (Below.refl _ _).drew⟩ (fun _ => by rw [← hF, size_putAll]) ?_ ?_ ?_
  · intro t ht
    rw [← hF, putAll_same _ _ _ _ (not_pending ht)]
  · intro i o ho listed _ w' _ _ ⟨hS', hb'⟩
    have h := FixL.get _ _ hop i o (by simpa using ho) rfl
    unfold Fix at h
    split
    · rename_i hw
      rw [if_pos hw] at h
      have h' := h w' hS'
      unfold Oper.wp at h' ⊢
      refine upon_of (K' := fun a' w'' => a' = ⟨F, a.defers⟩ ∧ S w'' ∧ Below w'.heap.size w' w'') h' ?_ ?_
      · rintro v w'' ⟨e, s, b⟩
        exact ⟨(), e, ⟨s, hb'.trans (b.mono hb'.size)⟩, fun _ _ _ => rfl⟩
      · rintro b hb w'' ⟨e, _⟩
        exact hb (by rw [e])
    · rename_i hw
      rw [if_neg hw] at h
      exact ⟨h, hS', hb'⟩
  · intro _ _ w' _ hS'
    exact hQ w' hS'.1 hS'.2

/-- the same with one struct that the region makes (operation ia) and stores (operation is; or uses), the value in its slot being G of its block -/
theorem wp_region_boxG (G : Nat → Value) {id : Nat} {a : Act} {w : World} {Q : Exit → Act → World → Prop} (D : List Deferred) (hD : a.defers = D) (hm : P.follows .mixedOrders = true) (hns : Region.noSelect ops = true) (hlook : looksOk ops = true)
    (S : World → Prop) (F : Nat → Array Value) (vs : Nat → List Value) (hF : ∀ q, putAll ops.toList (vs q) a.tmps = F q) (hS : S w.drew)
    (ia is d : Nat) (oa os : Oper) (hoa : ops[ia]? = some oa) (hos : ops[is]? = some os) (T : TypeId) (z res : Array Value) (hia : (ops[ia]?).map (·.dst) = some (some d)) (his : (ops[is]?).map (fun o => o.after.any fun e => Region.binds .any e && e.on == ia) = some true)
    (hne : ia ≠ is) (hq' : ∀ q q', F q' = (F q).setIfInBounds d (G q'))
    (hop : ∀ q, FixL P ops S (F q) D (fun i => i == ia || i == is) 0 ops.toList)
    (halloc : ∀ q, Region.wanted oa (yielded ops (F q)) = true ∧ ∀ w', S w' → oa.wp P ⟨F q, D⟩ w' (fun a' w'' => a' = ⟨F w'.heap.size, D⟩ ∧ w'' = w'.alloc (.cells z T) ∧ S w'') (fun _ _ _ => False))
    (hstore : ∀ q, Region.wanted os (yielded ops (F q)) = true ∧ ∀ w', S w' → w.heap.size ≤ q → Blk w' q T z → os.wp P ⟨F q, D⟩ w' (fun a' w'' => a' = ⟨F q, D⟩ ∧ S w'' ∧ Blk w'' q T res ∧ Below w.heap.size w' w'') (fun _ _ _ => False))
    (hQ : ∀ q w', S w' → w.heap.size ≤ q → Blk w' q T res → Below w.heap.size w w' → Q .normal ⟨F q, D⟩ w') : (Code.region id ops true).wp P Q a w := by
  have hq : ∀ q q' t, t ≠ d → (F q').getD t undef = (F q).getD t undef := by
    intro q q' t ht
    rw [hq' q q']
    simp [Array.getElem?_setIfInBounds_ne (Ne.symm ht)]
  subst hD
  have hial : ia < ops.size := by
    cases h : ops[ia]? with
    | none => rw [h] at hia; cases hia
    | some o => exact (Array.getElem?_eq_some_iff.1 h).1
  have hisl : is < ops.size := by
    cases h : ops[is]? with
    | none => rw [h] at his; cases his
    | some o => exact (Array.getElem?_eq_some_iff.1 h).1
  refine wp_region_fix hm hns hlook F (fun listed q w' => S w' ∧ Below w.heap.size w w' ∧ (listed.getD is false = true → listed.getD ia false = true) ∧ (listed.getD ia false = true → w.heap.size ≤ q) ∧
      (listed.getD ia false = true → listed.getD is false = false → Blk w' q T z) ∧ (listed.getD is false = true → Blk w' q T res)) 0 ?_ (fun q => by rw [← hF q, size_putAll]) ?_ ?_ ?_
  · refine ⟨hS, (Below.refl _ _).drew, ?_, ?_, ?_, ?_⟩ <;> simp [hial, hisl]
  · intro t ht
    rw [← hF 0, putAll_same _ _ _ _ (not_pending ht)]
  · intro i o ho listed q w' hls hready ⟨hS', hb', hdep, hlow, hz, hres⟩
    have hlt : i < ops.size := (Array.getElem?_eq_some_iff.1 ho).1
    have hil : i < listed.size := by omega
    by_cases h1 : i = ia
    · subst h1
      obtain rfl : oa = o := by rw [hoa] at ho; injection ho
      obtain ⟨hw, hrun⟩ := halloc q
      have hdst : oa.dst = some d := by rw [ho] at hia; simpa using hia
      have hi0 : listed.getD i false = false := by
        obtain ⟨h0, _⟩ := mem_ready.1 hready
        simp [hil] at h0 ⊢; exact h0
      rw [if_pos hw]
      have h' := hrun w' hS'
      unfold Oper.wp at h' ⊢
      refine upon_of (K' := fun a' w'' => a' = ⟨F w'.heap.size, a.defers⟩ ∧ w'' = w'.alloc (.cells z T) ∧ S w'') h' ?_ ?_
      · rintro v w'' ⟨e, rfl, s⟩
        have hb'' : Below w.heap.size w (w'.alloc (.cells z T)) := hb'.alloc hb'.size _
        have his0 : listed.getD is false = false := by
          cases hc : listed.getD is false with
          | false => rfl
          | true => rw [hdep hc] at hi0; cases hi0
        have his1 : (listed.setIfInBounds i true).getD is false = false := by rw [getD_set_ne false hne]; exact his0
        refine ⟨w'.heap.size, e, ⟨s, hb'', ?_, ?_, ?_, ?_⟩, ?_⟩
        · intro h; rw [his1] at h; cases h
        · intro _; exact hb'.size
        · intro _ _; exact Blk.new _ _ _
        · intro h; rw [his1] at h; cases h
        · intro t _ ht
          exact hq _ _ t (fun e => ht (by rw [hdst, e]))
      · rintro b hb w'' ⟨e, _⟩
        exact hb (by rw [e])
    · have hia1 : (listed.setIfInBounds i true).getD ia false = listed.getD ia false := getD_set_ne false h1
      by_cases h2 : i = is
      · subst h2
        obtain rfl : os = o := by rw [hos] at ho; injection ho
        obtain ⟨hw, hrun⟩ := hstore q
        obtain ⟨h0, o', ho', hdeps⟩ := mem_ready.1 hready
        rw [hos] at ho'; injection ho' with ho'; subst ho'
        have hi0 : listed.getD i false = false := by simp [hil] at h0 ⊢; exact h0
        have hiad : listed.getD ia false = true := by
          rw [ho] at his
          simp only [Option.map_some, Option.some.injEq] at his
          obtain ⟨k, hk, hb⟩ := Array.any_eq_true.1 his
          simp only [Bool.and_eq_true, beq_iff_eq] at hb
          have := hdeps _ (Array.getElem_mem hk) hb.1
          rwa [hb.2] at this
        rw [if_pos hw]
        have h' := hrun w' hS' (hlow hiad) (hz hiad hi0)
        unfold Oper.wp at h' ⊢
        refine upon_of (K' := fun a' w'' => a' = ⟨F q, a.defers⟩ ∧ S w'' ∧ Blk w'' q T res ∧ Below w.heap.size w' w'') h' ?_ ?_
        · rintro v w'' ⟨e, s, b, bb⟩
          refine ⟨q, e, ⟨s, hb'.trans bb, ?_, ?_, ?_, ?_⟩, fun _ _ _ => rfl⟩
          · intro _; rw [hia1]; exact hiad
          · intro _; exact hlow hiad
          · intro _ h; simp [hil] at h
          · intro _; exact b
        · rintro b hb w'' ⟨e, _⟩
          exact hb (by rw [e])
      · have his1 : (listed.setIfInBounds i true).getD is false = listed.getD is false := getD_set_ne false h2
        have h := FixL.get _ _ (hop q) i o (by simpa using ho) (by simp [h1, h2])
        unfold Fix at h
        split
        · rename_i hw
          rw [if_pos hw] at h
          have h' := h w' hS'
          unfold Oper.wp at h' ⊢
          refine upon_of (K' := fun a' w'' => a' = ⟨F q, a.defers⟩ ∧ S w'' ∧ Below w'.heap.size w' w'') h' ?_ ?_
          · rintro v w'' ⟨e, s, b⟩
            refine ⟨q, e, ⟨s, hb'.trans (b.mono hb'.size), ?_, ?_, ?_, ?_⟩, fun _ _ _ => rfl⟩
            · rw [his1, hia1]; exact hdep
            · rw [hia1]; exact hlow
            · rw [his1, hia1]; exact fun x y => (hz x y).below b (hz x y).lt
            · rw [his1]; exact fun x => (hres x).below b (hres x).lt
          · rintro b hb w'' ⟨e, _⟩
            exact hb (by rw [e])
        · rename_i hw
          rw [if_neg hw] at h
          refine ⟨h, hS', hb', ?_, ?_, ?_, ?_⟩
          · rw [his1, hia1]; exact hdep
          · rw [hia1]; exact hlow
          · rw [his1, hia1]; exact hz
          · rw [his1]; exact hres
  · intro listed q w' hall ⟨hS', hb', _, hlow, _, hres⟩
    exact hQ q w' hS' (hlow (hall ia hial)) (hres (hall is hisl)) hb'

/-- the same with one struct that the region makes (operation ia) and stores (operation is) -/
theorem wp_region_box {id : Nat} {a : Act} {w : World} {Q : Exit → Act → World → Prop} (D : List Deferred) (hD : a.defers = D) (hm : P.follows .mixedOrders = true) (hns : Region.noSelect ops = true) (hlook : looksOk ops = true)
    (S : World → Prop) (F : Nat → Array Value) (vs : Nat → List Value) (hF : ∀ q, putAll ops.toList (vs q) a.tmps = F q) (hS : S w.drew)
    (ia is d : Nat) (oa os : Oper) (hoa : ops[ia]? = some oa) (hos : ops[is]? = some os) (T : TypeId) (z res : Array Value) (hia : (ops[ia]?).map (·.dst) = some (some d)) (his : (ops[is]?).map (fun o => o.after.any fun e => Region.binds .any e && e.on == ia) = some true)
    (hne : ia ≠ is) (hq' : ∀ q q', F q' = (F q).setIfInBounds d (.pointer (some ⟨q', 0, none⟩)))
    (hop : ∀ q, FixL P ops S (F q) D (fun i => i == ia || i == is) 0 ops.toList)
    (halloc : ∀ q, Region.wanted oa (yielded ops (F q)) = true ∧ ∀ w', S w' → oa.wp P ⟨F q, D⟩ w' (fun a' w'' => a' = ⟨F w'.heap.size, D⟩ ∧ w'' = w'.alloc (.cells z T) ∧ S w'') (fun _ _ _ => False))
    (hstore : ∀ q, Region.wanted os (yielded ops (F q)) = true ∧ ∀ w', S w' → w.heap.size ≤ q → Blk w' q T z → os.wp P ⟨F q, D⟩ w' (fun a' w'' => a' = ⟨F q, D⟩ ∧ S w'' ∧ Blk w'' q T res ∧ Below w.heap.size w' w'') (fun _ _ _ => False))
    (hQ : ∀ q w', S w' → w.heap.size ≤ q → Blk w' q T res → Below w.heap.size w w' → Q .normal ⟨F q, D⟩ w') : (Code.region id ops true).wp P Q a w :=
  wp_region_boxG (fun q' => .pointer (some ⟨q', 0, none⟩)) D hD hm hns hlook S F vs hF hS ia is d oa os hoa hos T z res hia his hne hq' hop halloc hstore hQ

/-- the same with one call (operation iv) that yields a value of unknown place, which later operations only move -/
theorem wp_region_val {id : Nat} {a : Act} {w : World} {Q : Exit → Act → World → Prop} (D : List Deferred) (hD : a.defers = D) (hm : P.follows .mixedOrders = true) (hns : Region.noSelect ops = true) (hlook : looksOk ops = true)
    (S : World → Prop) (R : Value → World → Prop) (F : Value → Array Value) (vs : Value → List Value) (hF : ∀ v, putAll ops.toList (vs v) a.tmps = F v) (hS : S w.drew)
    (iv : Nat) (ov : Oper) (hov : ops[iv]? = some ov)
    (hpend : ∀ v v' t, (F v').getD t undef ≠ (F v).getD t undef → ov.dst = some t ∨ ∃ (j : Nat) (o : Oper), ops[j]? = some o ∧ o.dst = some t ∧ j ≠ iv ∧ (o.after.any fun e => Region.binds .any e && e.on == iv) = true)
    (hR : ∀ v w' w'', R v w' → Below w'.heap.size w' w'' → R v w'')
    (hop : ∀ v, FixL P ops S (F v) D (fun i => i == iv) 0 ops.toList)
    (hval : ∀ v, Region.wanted ov (yielded ops (F v)) = true ∧ ∀ w', S w' → ov.wp P ⟨F v, D⟩ w' (fun a' w'' => ∃ v', (a'.defers = D ∧ ∀ t, ov.dst = some t → a'.tmps.getD t undef = (F v').getD t undef) ∧ S w'' ∧ R v' w'' ∧ Below w'.heap.size w' w'') (fun _ _ _ => False))
    (hQ : ∀ v w', S w' → R v w' → Below w.heap.size w w' → Q .normal ⟨F v, D⟩ w') : (Code.region id ops true).wp P Q a w := by
  subst hD
  have hivl : iv < ops.size := (Array.getElem?_eq_some_iff.1 hov).1
  refine wp_region_fixR hm hns hlook F (fun listed v w' => S w' ∧ Below w.heap.size w w' ∧ (listed.getD iv false = true → R v w') ∧
      ∀ (j : Nat) (o : Oper), ops[j]? = some o → (o.after.any fun e => Region.binds .any e && e.on == iv) = true → listed.getD j false = true → listed.getD iv false = true) undef ?_ (fun v => by rw [← hF v, size_putAll]) ?_ ?_ ?_
  · refine ⟨hS, (Below.refl _ _).drew, fun h => ?_, fun j o ho _ h => ?_⟩
    · simp [hivl] at h
    · have hj : j < ops.size := (Array.getElem?_eq_some_iff.1 ho).1
      simp [hj] at h
  · intro t ht
    rw [← hF undef, putAll_same _ _ _ _ (not_pending ht)]
  · intro i o ho listed v w' hls hready ⟨hS', hb', hr', hdep⟩
    have hlt : i < ops.size := (Array.getElem?_eq_some_iff.1 ho).1
    have hil : i < listed.size := by omega
    have hivs : iv < listed.size := by omega
    obtain ⟨h0, o', ho', hdeps⟩ := mem_ready.1 hready
    rw [ho] at ho'; injection ho' with ho'; subst ho'
    have hi0 : listed.getD i false = false := by simp [hil] at h0 ⊢; exact h0
    have hdep' : ∀ (j : Nat) (p : Oper), ops[j]? = some p → (p.after.any fun e => Region.binds .any e && e.on == iv) = true → (listed.setIfInBounds i true).getD j false = true → (listed.setIfInBounds i true).getD iv false = true := by
      intro j p hp ha hj
      by_cases e : i = iv
      · subst e; simp [hil]
      · rw [getD_set_ne false e]
        by_cases ej : i = j
        · subst ej
          rw [ho] at hp; injection hp with hp; subst hp
          obtain ⟨k, hk, hb⟩ := Array.any_eq_true.1 ha
          simp only [Bool.and_eq_true, beq_iff_eq] at hb
          have := hdeps _ (Array.getElem_mem hk) hb.1
          rwa [hb.2] at this
        · rw [getD_set_ne false ej] at hj
          exact hdep j p hp ha hj
    by_cases h1 : i = iv
    · subst h1
      obtain rfl : ov = o := by rw [hov] at ho; injection ho
      obtain ⟨hw, hrun⟩ := hval v
      rw [if_pos hw]
      have h' := hrun w' hS'
      unfold Oper.wp at h' ⊢
      refine upon_of (K' := fun a' w'' => ∃ v', (a'.defers = a.defers ∧ ∀ t, ov.dst = some t → a'.tmps.getD t undef = (F v').getD t undef) ∧ S w'' ∧ R v' w'' ∧ Below w'.heap.size w' w'') h' ?_ ?_
      · rintro u w'' ⟨v', e, s, r, b⟩
        refine ⟨v', e, ⟨s, hb'.trans (b.mono hb'.size), fun _ => r, hdep'⟩, fun t hp hd => ?_⟩
        refine Classical.byContradiction fun hne => ?_
        rcases hpend v v' t hne with h | ⟨j, p, hp1, hp2, hp3, hp4⟩
        · exact hd h
        · refine hp ⟨j, p, hp1, hp2, ?_⟩
          rw [getD_set_ne false (Ne.symm hp3)]
          cases hc : listed.getD j false with
          | false => rfl
          | true => have := hdep j p hp1 hp4 hc; rw [hi0] at this; cases this
      · rintro b hb w'' ⟨v', e, _⟩
        exact hb e.1
    · have hiv : (listed.setIfInBounds i true).getD iv false = listed.getD iv false := getD_set_ne false h1
      have h := FixL.get _ _ (hop v) i o (by simpa using ho) (by simp [h1])
      unfold Fix at h
      split
      · rename_i hw
        rw [if_pos hw] at h
        have h' := h w' hS'
        unfold Oper.wp at h' ⊢
        refine upon_of (K' := fun a' w'' => a' = ⟨F v, a.defers⟩ ∧ S w'' ∧ Below w'.heap.size w' w'') h' ?_ ?_
        · rintro u w'' ⟨e, s, b⟩
          exact ⟨v, ⟨by rw [e], fun _ _ => by rw [e]⟩, ⟨s, hb'.trans (b.mono hb'.size), fun hh => hR _ _ _ (hr' (by rwa [hiv] at hh)) b, hdep'⟩, fun _ _ _ => rfl⟩
        · rintro b hb w'' ⟨e, _⟩
          exact hb (by rw [e])
      · rename_i hw
        rw [if_neg hw] at h
        exact ⟨h, hS', hb', fun hh => hr' (by rwa [hiv] at hh), hdep'⟩
  · intro listed v w' hall ⟨hS', hb', hr', _⟩
    exact hQ v w' hS' (hr' (hall iv hivl)) hb'
/-- every operation but the last one is waited for by another one -/
def lastOk (ops : Array Oper) : Bool :=
  (List.range (ops.size - 1)).all fun j => (List.range ops.size).any fun k => match ops[k]? with
    | none => false
    | some o => o.after.any fun e => Region.binds .any e && e.on == j
theorem lastOk_spec {ops : Array Oper} (h : lastOk ops = true) {j : Nat} (hj : j + 1 < ops.size) : ∃ (k : Nat) (o : Oper), ops[k]? = some o ∧ ∃ e ∈ o.after, Region.binds .any e = true ∧ e.on = j := by
  have h1 := List.all_eq_true.1 h j (List.mem_range.2 (by omega))
  obtain ⟨k, _, hk⟩ := List.any_eq_true.1 h1
  cases ho : ops[k]? with
  | none => simp [ho] at hk
  | some o =>
    simp only [ho] at hk
    obtain ⟨i, hi, hb⟩ := Array.any_eq_true.1 hk
    simp only [Bool.and_eq_true, beq_iff_eq] at hb
    exact ⟨k, o, ho, o.after[i], Array.getElem_mem hi, hb.1, hb.2⟩

/-- a region whose last operation waits for all others, and changes the world -/
theorem wp_region_last {id : Nat} {a : Act} {w : World} {Q : Exit → Act → World → Prop} (D : List Deferred) (hD : a.defers = D) (hm : P.follows .mixedOrders = true) (hns : Region.noSelect ops = true) (hlook : looksOk ops = true) (hlast : lastOk ops = true)
    (S S' : World → Prop) (F : Array Value) (vs : List Value) (hF : putAll ops.toList vs a.tmps = F) (hS : S w.drew)
    (is : Nat) (os : Oper) (hos : ops[is]? = some os) (his : is + 1 = ops.size)
    (hop : FixL P ops S F D (fun i => i == is) 0 ops.toList)
    (hstore : Region.wanted os (yielded ops F) = true ∧ ∀ w', S w' → os.wp P ⟨F, D⟩ w' (fun a' w'' => a' = ⟨F, D⟩ ∧ S' w'') (fun _ _ _ => False))
    (hQ : ∀ w', S' w' → Q .normal ⟨F, D⟩ w') : (Code.region id ops true).wp P Q a w := by
  subst hD
  refine wp_region_fix hm hns hlook (γ := Unit) (fun _ => F) (fun listed _ w' => (listed.getD is false = false → S w') ∧ (listed.getD is false = true → S' w') ∧
      ∀ (k : Nat) (o : Oper), ops[k]? = some o → listed.getD k false = true → ∀ e ∈ o.after, Region.binds .any e = true → listed.getD e.on false = true) () ?_ (fun _ => by rw [← hF, size_putAll]) ?_ ?_ ?_
  · refine ⟨fun _ => hS, fun h => ?_, fun k o ho h => ?_⟩
    · simp [show is < ops.size by omega] at h
    · have hk : k < ops.size := (Array.getElem?_eq_some_iff.1 ho).1
      simp [hk] at h
  · intro t ht
    rw [← hF, putAll_same _ _ _ _ (not_pending ht)]
  · intro i o ho listed _ w' hls hready ⟨hS0, hS1, hdep⟩
    have hlt : i < ops.size := (Array.getElem?_eq_some_iff.1 ho).1
    have hil : i < listed.size := by omega
    obtain ⟨h0, o', ho', hdeps⟩ := mem_ready.1 hready
    rw [ho] at ho'; injection ho' with ho'; subst ho'
    have hi0 : listed.getD i false = false := by simp [hil] at h0 ⊢; exact h0
    have hdep' : ∀ (k : Nat) (p : Oper), ops[k]? = some p → (listed.setIfInBounds i true).getD k false = true → ∀ e ∈ p.after, Region.binds .any e = true → (listed.setIfInBounds i true).getD e.on false = true := by
      intro k p hp hk e he hb
      have base : listed.getD e.on false = true := by
        by_cases ek : i = k
        · subst ek
          rw [ho] at hp; injection hp with hp; subst hp
          exact hdeps e he hb
        · rw [getD_set_ne false ek] at hk
          exact hdep k p hp hk e he hb
      by_cases ee : i = e.on
      · rw [← ee] at base; rw [hi0] at base; cases base
      · rw [getD_set_ne false ee]; exact base
    by_cases h1 : i = is
    · subst h1
      obtain rfl : os = o := by rw [hos] at ho; injection ho
      obtain ⟨hw, hrun⟩ := hstore
      rw [if_pos hw]
      have h' := hrun w' (hS0 hi0)
      unfold Oper.wp at h' ⊢
      refine upon_of (K' := fun a' w'' => a' = ⟨F, a.defers⟩ ∧ S' w'') h' ?_ ?_
      · rintro v w'' ⟨e, s⟩
        refine ⟨(), e, ⟨fun h => ?_, fun _ => s, hdep'⟩, fun _ _ _ => rfl⟩
        simp [hil] at h
      · rintro b hb w'' ⟨e, _⟩
        exact hb (by rw [e])
    · have his1 : (listed.setIfInBounds i true).getD is false = listed.getD is false := getD_set_ne false h1
      have hisf : listed.getD is false = false := by
        cases hc : listed.getD is false with
        | false => rfl
        | true =>
          exfalso
          have key : ∀ m j, j + m = is → listed.getD j false = true := by
            intro m
            induction m using Nat.strongRecOn with
            | ind m ih =>
              intro j hj
              by_cases hm0 : m = 0
              · have : j = is := by omega
                subst this; exact hc
              · obtain ⟨k, p, hp, e, he, hb, hon⟩ := lastOk_spec hlast (j := j) (by omega)
                have hkj := (looksOk_spec hlook hp).1 e he hb
                have hks : k < ops.size := (Array.getElem?_eq_some_iff.1 hp).1
                have hk := ih (is - k) (by omega) k (by omega)
                have := hdep k p hp hk e he hb
                rwa [hon] at this
          have := key (is - i) i (by omega)
          rw [hi0] at this; cases this
      have h := FixL.get _ _ hop i o (by simpa using ho) (by simp [h1])
      unfold Fix at h
      split
      · rename_i hw
        rw [if_pos hw] at h
        have h' := h w' (hS0 hisf)
        unfold Oper.wp at h' ⊢
        refine upon_of (K' := fun a' w'' => a' = ⟨F, a.defers⟩ ∧ S w'' ∧ Below w'.heap.size w' w'') h' ?_ ?_
        · rintro v w'' ⟨e, s, _⟩
          exact ⟨(), e, ⟨fun _ => s, fun h => (by rw [his1, hisf] at h; cases h), hdep'⟩, fun _ _ _ => rfl⟩
        · rintro b hb w'' ⟨e, _⟩
          exact hb (by rw [e])
      · rename_i hw
        rw [if_neg hw] at h
        exact ⟨h, fun _ => hS0 hisf, fun h => (by rw [his1, hisf] at h; cases h), hdep'⟩
  · intro listed _ w' hall ⟨_, hS1, _⟩
    exact hQ w' (hS1 (hall is (by omega)))
end
end Go.Proofs.Ytkbfocoaobiijaa

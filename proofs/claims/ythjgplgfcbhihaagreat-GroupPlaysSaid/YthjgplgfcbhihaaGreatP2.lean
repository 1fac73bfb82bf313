/- Proved here: contracts of functions and plain laws, part 2 of 6 of one proof. Conditions: each theorem names its own. -/
import Derived.Test.YthjgplgfcbhihaaGreatP1
import Derived.Test.YthjgplgfcbhihaaGreatProg
import Derived.ProofKit
import Derived.OpenShut
import Derived.ChangeMaps5
import Derived.SliceStrings
import Derived.Deep.Slices
import Derived.ChangeArms
import Derived.DataReads
import Derived.StillTailTactics
/- A region that draws its order, walked in one order of one's own: first operations that only read (H), each the same in every world of a class C; then some that may come early but stay within C (T1); then the rest (T2), each behind all of H. No program is named. -/
set_option linter.unusedVariables false
set_option linter.unusedSimpArgs false
namespace Go.Proofs.YthjgplgfcbhihaaGreat
open Go Go.RowKit Go.Sort
section
variable {P : Program} {ops : Array Oper} {md : Region.Mode} {C : World → Prop} {Q : Exit → Act → World → Prop}

/-- An operation that ends in a value: it enters no function. -/
def plainB (o : Oper) : Bool :=
  match o.op with
  | .move _ | .assign _ | .pick .. | .load .. | .binOp .. | .unOp .. | .fieldAddr .. | .field .. | .indexAddr .. | .index .. | .lookup .. | .extract .. | .build .. | .slice .. | .convert .. => true
  | .nilCheck _ => true
  | .call { callee := .builtin .len, .. } => true
  | .call { callee := .builtin .min, .. } => true
  | .call { callee := .builtin .max, .. } => true
  | _ => false
theorem run_value {s : Sem Value} {w w' : World} {n : Next} (h : (do pure (Next.value (← s)) : Sem Next).run P w = .ok n w') : ∃ v, n = .value v := by
  simp only [Sem.run_bind] at h
  generalize s.run P w = r at h
  cases r with
  | ok a w1 => simp [Result.andThen] at h; exact ⟨a, h.1.symm⟩
  | halt x w1 => simp [Result.andThen] at h
/-- It stands still in every world of the class. -/
def YieldsS (P : Program) (ops : Array Oper) (C : World → Prop) (o : Oper) (v : Value) (a : Act) : Prop :=
  (Region.wanted o (yielded ops a.tmps) = true ∧ ∀ w, C w → (execOp a.eval o).run P w = .ok (.value v) w) ∨
  (Region.wanted o (yielded ops a.tmps) = false ∧ v = undef)
theorem YieldsS.of_same {o : Oper} {v : Value} {a a' : Act} (hy : YieldsS P ops C o v a) (he : execOp a'.eval o = execOp a.eval o)
    (hw : Region.wanted o (yielded ops a'.tmps) = Region.wanted o (yielded ops a.tmps)) : YieldsS P ops C o v a' := by
  unfold YieldsS at *
  rw [he, hw]
  exact hy
theorem YieldsS.put {oi oj : Oper} {v u : Value} {a : Act} (hap : oi.apart ops oj = true) (hsi : ∀ cs b, oi.op ≠ .select cs b) (hy : YieldsS P ops C oi v a) : YieldsS P ops C oi v (a.put oj.dst u) :=
  hy.of_same (execOp_put oi hsi a oj.dst u (Oper.apart_spec hap).2.2) (wanted_put oi a oj.dst u (Oper.apart_spec hap).2.2)
theorem YieldsS.unput {oi oj : Oper} {v u : Value} {a : Act} (hap : oi.apart ops oj = true) (hsj : ∀ cs b, oj.op ≠ .select cs b) (hy : YieldsS P ops C oj u (a.put oi.dst v)) : YieldsS P ops C oj u a :=
  hy.of_same (execOp_put oj hsj a oi.dst v (Oper.apart_spec hap).1).symm (wanted_put oj a oi.dst v (Oper.apart_spec hap).1).symm
theorem YieldsS.wpOp {i : Nat} {o : Oper} {v : Value} {a : Act} {w : World} (hi : ops[i]? = some o) (hC : C w) (hy : YieldsS P ops C o v a) {K : Act → World → Prop} (h : K (a.put o.dst v) w) : wpOp P ops Q i K a w := by
  unfold Go.wpOp
  simp only [hi]
  rcases hy with ⟨hw, hv⟩ | ⟨hw, rfl⟩
  · simp only [hw, if_true, Oper.wp, hv w hC, Oper.upon]; exact .inl h
  · simp only [hw, Bool.false_eq_true, if_false]; exact h
theorem wpOp_putS {j : Nat} {oi oj : Oper} {v : Value} (hj : ops[j]? = some oj) (hap : oi.apart ops oj = true)
    (hsi : ∀ cs b, oi.op ≠ .select cs b) (hsj : ∀ cs b, oj.op ≠ .select cs b)
    (hQ : ∀ c a w, Q (.panic c) (a.put oi.dst v) w → Q (.panic c) a w) {K : Act → World → Prop} {a : Act} {w : World}
    (hy : YieldsS P ops C oi v a) (h : wpOp P ops Q j K (a.put oi.dst v) w) :
    wpOp P ops Q j (fun a' w' => YieldsS P ops C oi v a' ∧ K (a'.put oi.dst v) w') a w := by
  obtain ⟨h1, h2, h3⟩ := Oper.apart_spec hap
  have keep : ∀ (b : Act), YieldsS P ops C oi v b → ∀ u, YieldsS P ops C oi v (b.put oj.dst u) := fun b hb u => hb.put hap hsi
  have keepD : ∀ d, YieldsS P ops C oi v { a with defers := d :: a.defers } := fun d => hy.of_same rfl rfl
  unfold Go.wpOp at h ⊢
  simp only [hj] at h ⊢
  rw [wanted_put oj a oi.dst v h1] at h
  by_cases hw : Region.wanted oj (yielded ops a.tmps) = true
  · rw [if_pos hw] at h ⊢
    rcases h with h | ⟨hasks, hlets⟩
    · left
      unfold Oper.wp at h ⊢
      rw [execOp_put oj hsj a oi.dst v h1] at h
      generalize (execOp a.eval oj).run P w = r at h ⊢
      cases r with
      | ok n w' =>
        cases n <;> simp only [Oper.upon] at h ⊢
        case value u => exact ⟨keep a hy u, (Act.put_comm a v u h2) ▸ h⟩
        case skip => exact ⟨keep a hy _, (Act.put_comm a v undef h2) ▸ h⟩
        case defer d =>
          refine ⟨keep _ (keepD d) _, ?_⟩
          rw [← Act.put_comm _ v undef h2, ← Act.put_defers]
          exact h
        case enter f args =>
          refine Calls.mono h fun e w'' he => ?_
          cases e with
          | returned u => exact ⟨keep a hy u, (Act.put_comm a v u h2) ▸ he⟩
          | panicked c => exact hQ _ _ _ he
          | outgrown => exact he
        case row row args => exact Rows.mono h fun u w'' he => ⟨keep a hy u, (Act.put_comm a v u h2) ▸ he⟩
      | halt x w' =>
        cases x <;> simp only [Oper.upon] at h ⊢
        case panic u => exact hQ _ _ _ h
    · right
      refine ⟨?_, hlets⟩
      unfold Oper.asks at *
      rw [execOp_put oj hsj a oi.dst v h1] at hasks
      exact hasks
  · rw [if_neg hw] at h ⊢
    exact ⟨keep a hy _, (Act.put_comm a v undef h2) ▸ h⟩
theorem run_valueF {α : Type} {s : Sem α} {f : α → Value} {w w' : World} {n : Next} (h : (s >>= fun x => pure (Next.value (f x)) : Sem Next).run P w = .ok n w') : ∃ v, n = .value v := by
  simp only [Sem.run_bind] at h
  generalize s.run P w = r at h
  cases r with
  | ok a w1 => simp [Result.andThen] at h; exact ⟨_, h.1.symm⟩
  | halt x w1 => simp [Result.andThen] at h
theorem run_bindV {α : Type} {s : Sem α} {g : α → Sem Next} {w w' : World} {n : Next} (hg : ∀ a n w w', (g a).run P w = .ok n w' → ∃ v, n = .value v) (h : (s >>= g).run P w = .ok n w') : ∃ v, n = .value v := by
  simp only [Sem.run_bind] at h
  generalize s.run P w = r at h
  cases r with
  | ok a w1 => exact hg a n w1 w' (by simpa [Result.andThen] using h)
  | halt x w1 => simp [Result.andThen] at h
theorem run_builtin {ρ : Operand → Value} {c : Call} {ty : TypeId} {b : Builtin} {s : Array TypeId → TypeId → Array Value → Sem Value} {w w' : World} {n : Next} (hc : c.callee = .builtin b)
    (hb : ∀ a t cs x, builtin b a t cs x = (do pure (Next.value (← s a t x)) : Sem Next)) (h : (do let d ← resolve ρ c ty; invoke d.target d.args : Sem Next).run P w = .ok n w') : ∃ v, n = .value v := by
  simp only [resolve, hc, Sem.run_bind, Sem.run_pure, Result.andThen_ok, invoke, hb] at h
  generalize (s c.argTypes ty (c.args.map ρ)).run P w = r at h
  cases r with
  | ok a w1 => simp [Result.andThen] at h; exact ⟨a, h.1.symm⟩
  | halt x w1 => simp [Result.andThen] at h
theorem plain_value {o : Oper} {ρ : Operand → Value} {w w' : World} {n : Next} (h : plainB o = true) (hr : (execOp ρ o).run P w = .ok n w') : ∃ v, n = .value v := by
  obtain ⟨dst, op, type, pos, after, guard⟩ := o
  cases op <;> simp only [plainB] at h <;> try cases h
  case move x => simp only [execOp, Sem.run_pure] at hr; cases hr; exact ⟨_, rfl⟩
  case assign x => simp only [execOp, Sem.run_pure] at hr; cases hr; exact ⟨_, rfl⟩
  case pick c a b => exact run_valueF hr
  case nilCheck x =>
    simp only [execOp] at hr
    split at hr
    all_goals first
      | (simp [runtimePanic, Sem.run_bind, Result.andThen, goPanic, Sem.run] at hr; done)
      | (simp only [Sem.run_pure] at hr; cases hr; exact ⟨_, rfl⟩)
      | (split at hr <;> first
          | (simp [runtimePanic, Sem.run_bind, Result.andThen, goPanic, Sem.run] at hr; done)
          | (simp only [Sem.run_pure] at hr; cases hr; exact ⟨_, rfl⟩)
          | (refine run_bindV (fun a n w w' h => ?_) hr
             refine run_bindV (fun a n w w' h => ?_) h
             split at h
             · simp [unsupported, Sem.run, Sem.run_bind, Result.andThen] at h
             · simp [Sem.run_bind, Result.andThen] at h
               exact ⟨_, h.1.symm⟩))
  case call c =>
    obtain ⟨callee, args, ats⟩ := c
    cases callee with
    | value f => simp at h
    | invoke r m => simp at h
    | builtin b =>
      cases b <;> simp at h
      case len => exact run_builtin (b := .len) (s := fun a t x => Builtin.len_ a t x) rfl (fun _ _ _ _ => rfl) hr
      case max => exact run_builtin (b := .max) (s := fun a t x => Builtin.max_ a t x) rfl (fun _ _ _ _ => rfl) hr
      case min => exact run_builtin (b := .min) (s := fun a t x => Builtin.min_ a t x) rfl (fun _ _ _ _ => rfl) hr
  all_goals exact run_value hr

/-! ## the plan -/
def sinkL (md : Region.Mode) (ops : Array Oper) : List Nat → Nat → Bool
  | [], _ => true
  | h :: H, t => ((H ++ [t]).any fun j => Region.waitsFor md ops j h) && sinkL md ops H t
def chainL (md : Region.Mode) (ops : Array Oper) : Nat → List Nat → Bool
  | _, [] => true
  | t, u :: us => Region.waitsFor md ops u t && chainL md ops u us
def behindB (md : Region.Mode) (ops : Array Oper) (H : List Nat) : List Nat → Bool
  | [] => true
  | t :: ts => sinkL md ops H t && chainL md ops t ts
/-- One behind the other, each the only one that may come. -/
def seqL (md : Region.Mode) (ops : Array Oper) : List Nat → Array Bool → Bool
  | [], listed => (Region.ready md ops listed).isEmpty
  | t :: ts, listed => decide (Region.ready md ops listed = [t]) && seqL md ops ts (listed.setIfInBounds t true)
def headL (md : Region.Mode) (ops : Array Oper) (T : List Nat) : List Nat → Array Bool → Bool
  | [], listed => seqL md ops T listed
  | h :: H, listed => (Region.ready md ops listed).contains h && Region.free md ops listed h && headL md ops T H (listed.setIfInBounds h true)
def plainAt (ops : Array Oper) (i : Nat) : Bool := match ops[i]? with | some o => plainB o | none => false
def planB (md : Region.Mode) (ops : Array Oper) (H T1 T2 : List Nat) : Bool :=
  (Region.noSelect ops && H.all (plainAt ops)) && (((List.range ops.size).all (fun i => H.contains i || (T1.contains i || T2.contains i)) && ((T1 ++ T2).all (fun i => !H.contains i) && T2.all (fun i => !T1.contains i))) &&
    (decide (H.length + (T1 ++ T2).length = ops.size) && (behindB md ops H T2 && headL md ops (T1 ++ T2) H (Array.replicate ops.size false))))
def Closed (md : Region.Mode) (ops : Array Oper) (listed : Array Bool) : Prop :=
  ∀ j oj, ops[j]? = some oj → listed.getD j false = true → ∀ e ∈ oj.after, Region.binds md e = true → listed.getD e.on false = true
theorem Closed.set {listed : Array Bool} {i : Nat} (inv : Closed md ops listed) (hi : i ∈ Region.ready md ops listed) : Closed md ops (listed.setIfInBounds i true) := by
  obtain ⟨_, oi, hoi, hall⟩ := mem_ready.1 hi
  intro j oj hj hl e he hb
  by_cases hij : i = j
  · subst hij
    have : oj = oi := Option.some.inj (hj.symm.trans hoi)
    subst this
    exact getD_set_true (hall e he hb)
  · rw [getD_set_ne false hij] at hl
    exact getD_set_true (inv j oj hj hl e he hb)
/-- What a listed or a ready operation waits for is listed. -/
theorem waits_listed {listed : Array Bool} (inv : Closed md ops listed) {j i : Nat} (hj : listed.getD j false = true ∨ j ∈ Region.ready md ops listed) (hw : Region.waitsFor md ops j i = true) : listed.getD i false = true := by
  obtain ⟨oj, hoj, e, he, hb, hon⟩ := Region.waitsFor_spec hw
  rcases hj with hj | hj
  · rw [← hon]; exact inv j oj hoj hj e he hb
  · obtain ⟨_, o', ho', hall⟩ := mem_ready.1 hj
    have : o' = oj := Option.some.inj (ho'.symm.trans hoj)
    subst this
    rw [← hon]; exact hall e he hb
theorem sink_spec {listed : Array Bool} (inv : Closed md ops listed) {t : Nat} (ht : listed.getD t false = true ∨ t ∈ Region.ready md ops listed) : ∀ (H : List Nat), sinkL md ops H t = true → ∀ h ∈ H, listed.getD h false = true
  | [], _, _, hh => by cases hh
  | h :: H, hs, x, hx => by
    simp only [sinkL, Bool.and_eq_true] at hs
    have ih := sink_spec inv ht H hs.2
    rcases List.mem_cons.1 hx with rfl | hx
    · obtain ⟨j, hj, hw⟩ := List.any_eq_true.1 hs.1
      rcases List.mem_append.1 hj with hj | hj
      · exact waits_listed inv (.inl (ih j hj)) hw
      · have : j = t := by simpa using hj
        subst this
        exact waits_listed inv ht hw
    · exact ih x hx
theorem chain_spec {listed : Array Bool} (inv : Closed md ops listed) : ∀ (ts : List Nat) (t : Nat), chainL md ops t ts = true → ∀ u ∈ ts, (listed.getD u false = true ∨ u ∈ Region.ready md ops listed) → listed.getD t false = true
  | [], _, _, _, hu, _ => by cases hu
  | v :: ts, t, hc, u, hu, hr => by
    simp only [chainL, Bool.and_eq_true] at hc
    rcases List.mem_cons.1 hu with rfl | hu
    · exact waits_listed inv hr hc.1
    · exact waits_listed inv (.inl (chain_spec inv ts v hc.2 u hu hr)) hc.1
theorem behind_spec {listed : Array Bool} (inv : Closed md ops listed) {H T2 : List Nat} (hb : behindB md ops H T2 = true) {t : Nat} (ht : t ∈ T2) (hr : t ∈ Region.ready md ops listed) : ∀ h ∈ H, listed.getD h false = true := by
  cases T2 with
  | nil => cases ht
  | cons u us =>
    simp only [behindB, Bool.and_eq_true] at hb
    rcases List.mem_cons.1 ht with rfl | ht
    · exact sink_spec inv (.inr hr) H hb.1
    · exact sink_spec inv (.inl (chain_spec inv us u hb.2 t ht (.inr hr))) H hb.1

/-- Whatever order is picked: the reading ones stand still in C, the early ones stay in C. -/
def AnyP (P : Program) (md : Region.Mode) (ops : Array Oper) (C : World → Prop) (Q : Exit → Act → World → Prop) (H T1 : List Nat) : Nat → Array Bool → Act → World → Prop
  | 0, listed, a, w => Region.ready md ops listed = [] ∧ Q .normal a w
  | f + 1, listed, a, w => Region.ready md ops listed ≠ [] ∧ ∀ i ∈ Region.ready md ops listed,
      (i ∈ H ∧ ∃ o v, ops[i]? = some o ∧ YieldsS P ops C o v a ∧ AnyP P md ops C Q H T1 f (listed.setIfInBounds i true) (a.put o.dst v) w) ∨
      (i ∉ H ∧ wpOp P ops Q i (fun a' w' => (i ∈ T1 → C w') ∧ AnyP P md ops C Q H T1 f (listed.setIfInBounds i true) a' w') a w)

theorem anyP_any {H T1 T2 : List Nat} (hb : behindB md ops H T2 = true) (hcov : ∀ i, i < ops.size → i ∈ H ∨ i ∈ T1 ∨ i ∈ T2) : ∀ (f : Nat) (listed : Array Bool) (a : Act) (w : World), Closed md ops listed → (C w ∨ ∀ h ∈ H, listed.getD h false = true) →
    AnyP P md ops C Q H T1 f listed a w → wpAny P md ops Q f listed a w
  | 0, _, _, _, _, _, h => h
  | f + 1, listed, a, w, inv, hC, h => by
    refine ⟨fun h0 => absurd h0 h.1, fun i hi => ?_⟩
    rcases h.2 i hi with ⟨hiH, o, v, ho, hy, hK⟩ | ⟨hiH, hop⟩
    · have hCw : C w := by
        rcases hC with q | q
        · exact q
        · have := q i hiH
          rw [getD_both (mem_ready.1 hi).1] at this
          cases this
      exact hy.wpOp ho hCw (anyP_any hb hcov f _ _ _ (inv.set hi) (.inl hCw) hK)
    · refine wpOp_mono (fun a' w' hk => anyP_any hb hcov f _ a' w' (inv.set hi) ?_ hk.2) hop
      obtain ⟨_, oi, hoi, _⟩ := mem_ready.1 hi
      have hlt : i < ops.size := (Array.getElem?_eq_some_iff.1 hoi).1
      rcases hcov i hlt with q | q | q
      · exact absurd q hiH
      · exact .inl (hk.1 q)
      · exact .inr fun x hx => getD_set_true (behind_spec inv hb q hi x hx)
theorem plan_first {H T1 : List Nat} {i : Nat} {oi : Oper} {v : Value} (hi : ops[i]? = some oi) (hsel : ∀ (j : Nat) (o : Oper) cs b, ops[j]? = some o → o.op ≠ .select cs b) (hiH : i ∈ H)
    (hQ : ∀ c d u a w, Q (.panic c) (Act.put a d u) w → Q (.panic c) a w) :
    ∀ (f : Nat) (listed : Array Bool) (a : Act) (w : World),
      (∀ j oj, ops[j]? = some oj → j ≠ i → listed.getD j true = false → (∀ e ∈ oj.after, Region.binds md e = true → e.on ≠ i) → oi.apart ops oj = true) →
      i ∈ Region.ready md ops listed → YieldsS P ops C oi v a →
      AnyP P md ops C Q H T1 f (listed.setIfInBounds i true) (a.put oi.dst v) w → AnyP P md ops C Q H T1 (f + 1) listed a w := by
  intro f
  induction f with
  | zero =>
    intro listed a w _ hr hy K
    refine ⟨fun h => (by rw [h] at hr; cases hr), fun j hj => ?_⟩
    by_cases hji : j = i
    · subst hji; exact .inl ⟨hiH, oi, v, hi, hy, K⟩
    · have := ready_mono hj hji
      rw [K.1] at this
      cases this
  | succ f ih =>
    intro listed a w hfree hr hy K
    have hun := (mem_ready.1 hr).1
    refine ⟨fun h => (by rw [h] at hr; cases hr), fun j hj => ?_⟩
    by_cases hji : j = i
    · subst hji; exact .inl ⟨hiH, oi, v, hi, hy, K⟩
    · obtain ⟨hjun, oj, hoj, hall⟩ := mem_ready.1 hj
      have hnot : ∀ e ∈ oj.after, Region.binds md e = true → e.on ≠ i := fun e he hb heq => by
        have h1 := hall e he hb
        rw [heq, getD_both hun] at h1
        cases h1
      have hap := hfree j oj hoj hji hjun hnot
      have hfree' : ∀ k ok, ops[k]? = some ok → k ≠ i → (listed.setIfInBounds j true).getD k true = false →
          (∀ e ∈ ok.after, Region.binds md e = true → e.on ≠ i) → oi.apart ops ok = true := fun k ok hk hki hun' hno => by
        refine hfree k ok hk hki ?_ hno
        by_cases hjk : j = k
        · subst hjk; exact hjun
        · rw [getD_set_ne true hjk] at hun'; exact hun'
      rcases K.2 j (ready_mono hj hji) with ⟨hjH, o', u, ho', hyj, hK⟩ | ⟨hjH, hop⟩
      · have : o' = oj := Option.some.inj (ho'.symm.trans hoj)
        subst this
        refine .inl ⟨hjH, o', u, ho', hyj.unput hap (fun cs b => hsel j o' cs b hoj), ?_⟩
        refine ih _ _ _ hfree' (ready_mono hr (Ne.symm hji)) (hy.put hap (fun cs b => hsel i oi cs b hi)) ?_
        rw [Array.setIfInBounds_comm _ _ hji, ← Act.put_comm a v u (Oper.apart_spec hap).2.1]
        exact hK
      · have h2 := wpOp_putS hoj hap (fun cs b => hsel i oi cs b hi) (fun cs b => hsel j oj cs b hoj) (fun c a w => hQ c _ _ a w) hy hop
        refine .inr ⟨hjH, wpOp_mono (fun a' w' h3 => ⟨h3.2.1, ih _ _ _ hfree' (ready_mono hr (Ne.symm hji)) h3.1 ?_⟩) h2⟩
        rw [Array.setIfInBounds_comm _ _ hji]
        exact h3.2.2
def opsAt (l : List Oper) (H : List Nat) : List Oper := H.filterMap fun i => l[i]?
/-- What stands behind an early operation: the class, and what follows. -/
def CheckQ (C : World → Prop) (Q : Exit → Act → World → Prop) (K : Act → World → Prop) : Exit → Act → World → Prop
  | .normal, a, w => C w ∧ K a w
  | e, a, w => Q e a w
theorem Oper.wp_q {o : Oper} {a : Act} {w : World} {K : Act → World → Prop} {Q' : Exit → Act → World → Prop} (hp : ∀ c a w, Q' (.panic c) a w → Q (.panic c) a w) (ho : LetsOut Q' → LetsOut Q) (h : o.wp P a w K Q') : o.wp P a w K Q := by
  unfold Oper.wp at *
  generalize (execOp a.eval o).run P w = r at *
  cases r with
  | ok n w' =>
    cases n <;> simp only [Oper.upon] at h ⊢ <;> first
      | exact h
      | exact Calls.mono h (fun e w'' he => by cases e <;> first | exact he | exact hp _ _ _ he | exact ho he)
  | halt x w' => cases x <;> simp only [Oper.upon] at h ⊢ <;> first | exact hp _ _ _ h | exact h
theorem wpOp_check {i : Nat} {o : Oper} {a : Act} {w : World} {K : Act → World → Prop} (hi : ops[i]? = some o) (h : wpList P ops (CheckQ C Q K) [o] a w) : wpOp P ops Q i (fun a' w' => C w' ∧ K a' w') a w := by
  unfold wpOp
  simp only [hi]
  unfold wpList at h
  by_cases hw : Region.wanted o (yielded ops a.tmps) = true
  · rw [if_pos hw] at h ⊢
    rcases h with h | h
    · exact .inl (Oper.wp_mono (fun _ _ q => q) (Oper.wp_q (fun _ _ _ q => q) (fun ⟨x, y, q⟩ => ⟨x, y, q⟩) h))
    · exact .inr ⟨h.1, by obtain ⟨x, y, q⟩ := h.2; exact ⟨x, y, q⟩⟩
  · rw [if_neg hw] at h ⊢
    exact h
def wpT1 (P : Program) (ops : Array Oper) (C : World → Prop) (Q : Exit → Act → World → Prop) : List Oper → (Act → World → Prop) → Act → World → Prop
  | [], K => K
  | o :: r, K => wpList P ops (CheckQ C Q (wpT1 P ops C Q r K)) [o]
end
section
variable {P : Program} {md : Region.Mode} {C : World → Prop} {Q : Exit → Act → World → Prop} {l : List Oper}
theorem opsAt_cons {i : Nat} {H : List Nat} {o : Oper} (h : l[i]? = some o) : opsAt l (i :: H) = o :: opsAt l H := by unfold opsAt; rw [List.filterMap_cons, h]
theorem ready_get {i : Nat} {listed : Array Bool} (h : Region.ready md l.toArray listed = [i]) : ∃ o, l[i]? = some o := by
  have : i ∈ Region.ready md l.toArray listed := by rw [h]; simp
  obtain ⟨_, o, ho, _⟩ := mem_ready.1 this
  exact ⟨o, by simpa using ho⟩
theorem plan_T2 {H T1 : List Nat} : ∀ (T2 : List Nat) (listed : Array Bool) (a : Act) (w : World), (∀ t ∈ T2, t ∉ H ∧ t ∉ T1) → seqL md l.toArray T2 listed = true → wpList P l.toArray Q (opsAt l T2) a w → AnyP P md l.toArray C Q H T1 T2.length listed a w
  | [], _, _, _, _, hs, h => ⟨by simpa [seqL] using hs, h⟩
  | t :: ts, listed, a, w, hd, hs, h => by
    simp only [seqL, Bool.and_eq_true, decide_eq_true_eq] at hs
    obtain ⟨o, ho⟩ := ready_get hs.1
    rw [opsAt_cons ho] at h
    refine ⟨by rw [hs.1]; simp, fun i hi => ?_⟩
    rw [hs.1] at hi
    have : i = t := by simpa using hi
    subst this
    refine .inr ⟨(hd i (by simp)).1, ?_⟩
    have hw : wpOp P l.toArray Q i (wpList P l.toArray Q (opsAt l ts)) a w := by
      unfold wpOp
      simp only [show l.toArray[i]? = some o by simpa using ho]
      exact h
    exact wpOp_mono (fun a' w' h' => ⟨fun q => absurd q (hd i (by simp)).2, plan_T2 ts _ a' w' (fun t ht => hd t (by simp [ht])) hs.2 h'⟩) hw
theorem plan_T1 {H T1 T2 : List Nat} (h2 : ∀ t ∈ T2, t ∉ H ∧ t ∉ T1) : ∀ (T : List Nat) (listed : Array Bool) (a : Act) (w : World), (∀ t ∈ T, t ∉ H) → seqL md l.toArray (T ++ T2) listed = true →
    wpT1 P l.toArray C Q (opsAt l T) (fun a w => wpList P l.toArray Q (opsAt l T2) a w) a w → AnyP P md l.toArray C Q H T1 (T ++ T2).length listed a w
  | [], listed, a, w, _, hs, h => plan_T2 T2 listed a w h2 hs h
  | t :: ts, listed, a, w, hd, hs, h => by
    simp only [List.cons_append, seqL, Bool.and_eq_true, decide_eq_true_eq] at hs
    obtain ⟨o, ho⟩ := ready_get hs.1
    rw [opsAt_cons ho] at h
    refine ⟨by rw [hs.1]; simp, fun i hi => ?_⟩
    rw [hs.1] at hi
    have : i = t := by simpa using hi
    subst this
    refine .inr ⟨hd i (by simp), ?_⟩
    have hw := wpOp_check (i := i) (by simpa using ho) h
    exact wpOp_mono (fun a' w' h' => ⟨fun _ => h'.1, plan_T1 h2 ts _ a' w' (fun t ht => hd t (by simp [ht])) hs.2 h'.2⟩) hw
theorem plan_H {H T1 T : List Nat} {L : Act → Prop} {w : World} (hsel : Region.noSelect l.toArray = true) (hQ : ∀ c d u a w, Q (.panic c) (Act.put a d u) w → Q (.panic c) a w) (hCw : C w)
    (hL : ∀ listed a, seqL md l.toArray T listed = true → L a → AnyP P md l.toArray C Q H T1 T.length listed a w) :
    ∀ (H' : List Nat) (listed : Array Bool) (a : Act), (∀ h ∈ H', h ∈ H ∧ plainAt l.toArray h = true) → headL md l.toArray T H' listed = true → wpQuiet P l.toArray C L (opsAt l H') a →
      AnyP P md l.toArray C Q H T1 (H'.length + T.length) listed a w
  | [], listed, a, _, hs, h => by rw [List.length_nil, Nat.zero_add]; exact hL listed a hs h
  | i :: is, listed, a, hd, hs, h => by
    simp only [headL, Bool.and_eq_true] at hs
    obtain ⟨⟨hr, hf⟩, hs'⟩ := hs
    have hr' : i ∈ Region.ready md l.toArray listed := by simpa using hr
    obtain ⟨_, o, ho, _⟩ := mem_ready.1 hr'
    have ho' : l[i]? = some o := by simpa using ho
    rw [opsAt_cons ho'] at h
    have hst : qOp P l.toArray C i (wpQuiet P l.toArray C L (opsAt l is)) a := by unfold qOp; simp only [ho]; exact h
    obtain ⟨v, hy, hK⟩ := yieldsIn_of_qOp ho hst
    have hpl : plainB o = true := by
      have := (hd i (by simp)).2
      unfold plainAt at this
      rw [ho] at this
      exact this
    have hyS : YieldsS P l.toArray C o v a := by
      rcases hy with ⟨q1, q2⟩ | q
      · refine .inl ⟨q1, fun W hW => ?_⟩
        have q3 := q2 W hW
        unfold Oper.quietAt at q3
        generalize hrr : (execOp a.eval o).run P W = r at q3 ⊢
        cases r with
        | ok n W' =>
          obtain ⟨u, rfl⟩ := plain_value hpl hrr
          simp only [Oper.quietUpon] at q3
          obtain ⟨e1, e2⟩ := q3
          rw [e1, e2]
        | halt x W' => simp only [Oper.quietUpon] at q3
      · exact .inr q
    rw [List.length_cons, show is.length + 1 + T.length = (is.length + T.length) + 1 by omega]
    exact plan_first ho (Region.noSelect_spec hsel) (hd i (by simp)).1 hQ _ listed a w (Region.free_spec ho hf) hr' hyS
      (plan_H hsel hQ hCw hL is _ _ (fun h hh => hd h (by simp [hh])) hs' hK)
/-- The region by a plan. -/
theorem wp_region_plan {id : Nat} {a : Act} {w : World} (H T1 T2 : List Nat) (hm : P.follows .mixedOrders = true) (hB : planB .any l.toArray H T1 T2 = true) (hQ : ∀ c d u a w, Q (.panic c) (Act.put a d u) w → Q (.panic c) a w) (hC : C w.drew)
    (h : wpQuiet P l.toArray C (fun a' => wpT1 P l.toArray C Q (opsAt l T1) (fun a w => wpList P l.toArray Q (opsAt l T2) a w) a' w.drew) (opsAt l H) a) : (Code.region id l.toArray true).wp P Q a w := by
  simp only [planB, Bool.and_eq_true, decide_eq_true_eq, List.all_eq_true, Bool.or_eq_true, List.contains_iff_mem, Bool.not_eq_true'] at hB
  obtain ⟨⟨hsel, hpl⟩, ⟨hcov, hd1, hd2⟩, hlen, hbe, hhd⟩ := hB
  refine wp_region_any hm ?_
  have inv0 : Closed .any l.toArray (Array.replicate l.toArray.size false) := fun j oj _ hl => by rw [getD_replicate_false] at hl; cases hl
  have hd1' : ∀ t ∈ T1 ++ T2, t ∉ H := fun t ht q => by
    have := hd1 t ht
    rw [List.contains_eq_mem, decide_eq_true q] at this
    cases this
  have hd2' : ∀ t ∈ T2, t ∉ T1 := fun t ht q => by
    have := hd2 t ht
    rw [List.contains_eq_mem, decide_eq_true q] at this
    cases this
  have h2 : ∀ t ∈ T2, t ∉ H ∧ t ∉ T1 := fun t ht => ⟨hd1' t (by simp [ht]), hd2' t ht⟩
  have := plan_H (md := .any) (H := H) (T1 := T1) (T := T1 ++ T2) hsel hQ hC (fun listed a hs hl => plan_T1 h2 T1 listed a w.drew (fun t ht => hd1' t (by simp [ht])) hs hl) H _ a (fun h hh => ⟨hh, hpl h hh⟩) hhd h
  rw [hlen] at this
  exact anyP_any hbe (fun i hi => hcov i (List.mem_range.2 hi)) _ _ _ _ inv0 (.inl hC) this
/-- A world in which of what was there at w only the blocks in S may have turned. -/
structure Within (S : List Nat) (w : World) where
  W : World
  h : Only S w W
instance (S : List Nat) (w : World) : Nonempty (Within S w) := ⟨⟨w, Only.refl S w⟩⟩
theorem wp_region_in {id : Nat} {a : Act} {w : World} (S H T1 T2 : List Nat) (hm : P.follows .mixedOrders = true) (hB : planB .any l.toArray H T1 T2 = true) (hQ : ∀ c d u a w, Q (.panic c) (Act.put a d u) w → Q (.panic c) a w)
    (h : wpQuiet P l.toArray (fun W => ∃ p : Within S w, W = p.W) (fun a' => wpT1 P l.toArray (fun W => ∃ p : Within S w, W = p.W) Q (opsAt l T1) (fun a w => wpList P l.toArray Q (opsAt l T2) a w) a' w.drew) (opsAt l H) a) : (Code.region id l.toArray true).wp P Q a w :=
  wp_region_plan H T1 T2 hm hB hQ ⟨⟨_, (Only.refl S w).drew⟩, rfl⟩ h
theorem Within.cell {S : List Nat} {w : World} {x : Addr} {v : Value} (hc : w.cell? x = some v) (hn : x.block ∉ S) (p : Within S w) : p.W.cell? x = some v := (p.h.cell (block_lt_of_cell hc) hn).trans hc
theorem check_of {S : List Nat} {w w' : World} {K : Act → World → Prop} {a : Act} (hO : Only S w w') (h : K a w') : CheckQ (fun W => ∃ p : Within S w, W = p.W) Q K .normal a w' := ⟨⟨⟨w', hO⟩, rfl⟩, h⟩
end
end Go.Proofs.YthjgplgfcbhihaaGreat
/- A region that draws its order, by a plan of five parts: reads, early ones, reads again, early ones, the rest. No program is named. -/
set_option linter.unusedVariables false
set_option linter.unusedSimpArgs false
namespace Go.Proofs.YthjgplgfcbhihaaGreat
open Go Go.RowKit Go.Sort
section
variable {P : Program} {md : Region.Mode} {C : World → Prop} {Q : Exit → Act → World → Prop} {l : List Oper}
def seqTo (md : Region.Mode) (ops : Array Oper) (S : Array Bool → Bool) : List Nat → Array Bool → Bool
  | [], listed => S listed
  | t :: ts, listed => decide (Region.ready md ops listed = [t]) && seqTo md ops S ts (listed.setIfInBounds t true)
def headTo (md : Region.Mode) (ops : Array Oper) (S : Array Bool → Bool) : List Nat → Array Bool → Bool
  | [], listed => S listed
  | h :: H, listed => (Region.ready md ops listed).contains h && Region.free md ops listed h && headTo md ops S H (listed.setIfInBounds h true)
theorem plan_A {H T1 : List Nat} {n : Nat} {S : Array Bool → Bool} {L : Act → World → Prop} (hL : ∀ listed a w, S listed = true → L a w → AnyP P md l.toArray C Q H T1 n listed a w) :
    ∀ (T : List Nat) (listed : Array Bool) (a : Act) (w : World), (∀ t ∈ T, t ∉ H) → seqTo md l.toArray S T listed = true → wpT1 P l.toArray C Q (opsAt l T) L a w → AnyP P md l.toArray C Q H T1 (T.length + n) listed a w
  | [], listed, a, w, _, hs, h => by rw [List.length_nil, Nat.zero_add]; exact hL listed a w hs h
  | t :: ts, listed, a, w, hd, hs, h => by
    simp only [seqTo, Bool.and_eq_true, decide_eq_true_eq] at hs
    obtain ⟨o, ho⟩ := ready_get hs.1
    rw [opsAt_cons ho] at h
    rw [List.length_cons, show ts.length + 1 + n = (ts.length + n) + 1 by omega]
    refine ⟨by rw [hs.1]; simp, fun i hi => ?_⟩
    rw [hs.1] at hi
    have : i = t := by simpa using hi
    subst this
    refine .inr ⟨hd i (by simp), ?_⟩
    have hw := wpOp_check (i := i) (by simpa using ho) h
    exact wpOp_mono (fun a' w' h' => ⟨fun _ => h'.1, plan_A hL ts _ a' w' (fun t ht => hd t (by simp [ht])) hs.2 h'.2⟩) hw
theorem plan_Hn {H T1 : List Nat} {n : Nat} {S : Array Bool → Bool} {L : Act → Prop} {w : World} (hsel : Region.noSelect l.toArray = true) (hQ : ∀ c d u a w, Q (.panic c) (Act.put a d u) w → Q (.panic c) a w)
    (hL : ∀ listed a, S listed = true → L a → AnyP P md l.toArray C Q H T1 n listed a w) :
    ∀ (H' : List Nat) (listed : Array Bool) (a : Act), (∀ h ∈ H', h ∈ H ∧ plainAt l.toArray h = true) → headTo md l.toArray S H' listed = true → wpQuiet P l.toArray C L (opsAt l H') a →
      AnyP P md l.toArray C Q H T1 (H'.length + n) listed a w
  | [], listed, a, _, hs, h => by rw [List.length_nil, Nat.zero_add]; exact hL listed a hs h
  | i :: is, listed, a, hd, hs, h => by
    simp only [headTo, Bool.and_eq_true] at hs
    obtain ⟨⟨hr, hf⟩, hs'⟩ := hs
    have hr' : i ∈ Region.ready md l.toArray listed := by simpa using hr
    obtain ⟨_, o, ho, _⟩ := mem_ready.1 hr'
    have ho' : l[i]? = some o := by simpa using ho
    rw [opsAt_cons ho'] at h
    have hst : qOp P l.toArray C i (wpQuiet P l.toArray C L (opsAt l is)) a := by unfold qOp; simp only [ho]; exact h
    obtain ⟨v, hy, hK⟩ := yieldsIn_of_qOp ho hst
    have hpl : plainB o = true := by
      have := (hd i (by simp)).2
      unfold plainAt at this
      rw [ho] at this
      exact this
    have hyS : YieldsS P l.toArray C o v a := by
      rcases hy with ⟨q1, q2⟩ | q
      · refine .inl ⟨q1, fun W hW => ?_⟩
        have q3 := q2 W hW
        unfold Oper.quietAt at q3
        generalize hrr : (execOp a.eval o).run P W = r at q3 ⊢
        cases r with
        | ok n W' =>
          obtain ⟨u, rfl⟩ := plain_value hpl hrr
          simp only [Oper.quietUpon] at q3
          obtain ⟨e1, e2⟩ := q3
          rw [e1, e2]
        | halt x W' => simp only [Oper.quietUpon] at q3
      · exact .inr q
    rw [List.length_cons, show is.length + 1 + n = (is.length + n) + 1 by omega]
    exact plan_first ho (Region.noSelect_spec hsel) (hd i (by simp)).1 hQ _ listed a w (Region.free_spec ho hf) hr' hyS
      (plan_Hn hsel hQ hL is _ _ (fun h hh => hd h (by simp [hh])) hs' hK)
theorem anyP_anyZ {ops : Array Oper} {H T1 T2 Z : List Nat} (hb : behindB md ops Z T2 = true) (hz : ∀ h ∈ H, h ∈ Z) (hcov : ∀ i, i < ops.size → i ∈ H ∨ i ∈ T1 ∨ i ∈ T2) : ∀ (f : Nat) (listed : Array Bool) (a : Act) (w : World), Closed md ops listed → (C w ∨ ∀ h ∈ H, listed.getD h false = true) →
    AnyP P md ops C Q H T1 f listed a w → wpAny P md ops Q f listed a w
  | 0, _, _, _, _, _, h => h
  | f + 1, listed, a, w, inv, hC, h => by
    refine ⟨fun h0 => absurd h0 h.1, fun i hi => ?_⟩
    rcases h.2 i hi with ⟨hiH, o, v, ho, hy, hK⟩ | ⟨hiH, hop⟩
    · have hCw : C w := by
        rcases hC with q | q
        · exact q
        · have := q i hiH
          rw [getD_both (mem_ready.1 hi).1] at this
          cases this
      exact hy.wpOp ho hCw (anyP_anyZ hb hz hcov f _ _ _ (inv.set hi) (.inl hCw) hK)
    · refine wpOp_mono (fun a' w' hk => anyP_anyZ hb hz hcov f _ a' w' (inv.set hi) ?_ hk.2) hop
      obtain ⟨_, oi, hoi, _⟩ := mem_ready.1 hi
      have hlt : i < ops.size := (Array.getElem?_eq_some_iff.1 hoi).1
      rcases hcov i hlt with q | q | q
      · exact absurd q hiH
      · exact .inl (hk.1 q)
      · exact .inr fun x hx => getD_set_true (behind_spec inv hb q hi x (hz x hx))
def planB2 (md : Region.Mode) (ops : Array Oper) (H A G B T2 : List Nat) : Bool :=
  (Region.noSelect ops && (H ++ G).all (plainAt ops)) && (((List.range ops.size).all (fun i => (H ++ G).contains i || ((A ++ B).contains i || T2.contains i)) && ((A ++ (B ++ T2)).all (fun i => !(H ++ G).contains i) && T2.all (fun i => !(A ++ B).contains i))) &&
    (decide (H.length + (A.length + (G.length + (B.length + T2.length))) = ops.size) && (behindB md ops (H ++ (A ++ (G ++ B))) T2 && headTo md ops (seqTo md ops (headTo md ops (seqTo md ops (seqL md ops T2) B) G) A) H (Array.replicate ops.size false))))
/-- The region by a plan of five parts. -/
theorem wp_region_plan2 {id : Nat} {a : Act} {w : World} (H A G B T2 : List Nat) (hm : P.follows .mixedOrders = true) (hB : planB2 .any l.toArray H A G B T2 = true) (hQ : ∀ c d u a w, Q (.panic c) (Act.put a d u) w → Q (.panic c) a w) (hC : C w.drew)
    (h : wpQuiet P l.toArray C (fun a' => wpT1 P l.toArray C Q (opsAt l A) (fun a w => wpQuiet P l.toArray C (fun a' => wpT1 P l.toArray C Q (opsAt l B) (fun a w => wpList P l.toArray Q (opsAt l T2) a w) a' w) (opsAt l G) a) a' w.drew) (opsAt l H) a) : (Code.region id l.toArray true).wp P Q a w := by
  simp only [planB2, Bool.and_eq_true, decide_eq_true_eq, List.all_eq_true, Bool.or_eq_true, List.contains_iff_mem, Bool.not_eq_true'] at hB
  obtain ⟨⟨hsel, hpl⟩, ⟨hcov, hd1, hd2⟩, hlen, hbe, hhd⟩ := hB
  refine wp_region_any hm ?_
  have inv0 : Closed .any l.toArray (Array.replicate l.toArray.size false) := fun j oj _ hl => by rw [getD_replicate_false] at hl; cases hl
  have hd1' : ∀ t ∈ A ++ (B ++ T2), t ∉ H ++ G := fun t ht q => by
    have := hd1 t ht
    rw [List.contains_eq_mem, decide_eq_true q] at this
    cases this
  have hd2' : ∀ t ∈ T2, t ∉ A ++ B := fun t ht q => by
    have := hd2 t ht
    rw [List.contains_eq_mem, decide_eq_true q] at this
    cases this
  have h2 : ∀ t ∈ T2, t ∉ H ++ G ∧ t ∉ A ++ B := fun t ht => ⟨hd1' t (by simp [ht]), hd2' t ht⟩
  have := plan_Hn (C := C) (md := .any) (H := H ++ G) (T1 := A ++ B) (S := seqTo .any l.toArray (headTo .any l.toArray (seqTo .any l.toArray (seqL .any l.toArray T2) B) G) A) hsel hQ
    (fun listed a hs hl => plan_A (S := headTo .any l.toArray (seqTo .any l.toArray (seqL .any l.toArray T2) B) G)
      (fun listed a w hs hl => plan_Hn (S := seqTo .any l.toArray (seqL .any l.toArray T2) B) hsel hQ
        (fun listed a hs hl => plan_A (S := seqL .any l.toArray T2) (fun listed a w hs hl => plan_T2 T2 listed a w h2 hs hl) B listed a w (fun t ht => hd1' t (by simp [ht])) hs hl)
        G listed a (fun h hh => ⟨by simp [hh], hpl h (by simp [hh])⟩) hs hl)
      A listed a w.drew (fun t ht => hd1' t (by simp [ht])) hs hl) H _ a (fun h hh => ⟨by simp [hh], hpl h (by simp [hh])⟩) hhd h
  rw [hlen] at this
  exact anyP_anyZ hbe (fun x hx => by simp at hx ⊢; rcases hx with q | q <;> simp [q]) (fun i hi => by
    rcases hcov i (List.mem_range.2 hi) with q | q | q
    · exact .inl q
    · exact .inr (.inl q)
    · exact .inr (.inr q)) _ _ _ _ inv0 (.inl hC) this
/-- Behind the last early operation, where nothing is left. -/
theorem check_last {S : List Nat} {w w' : World} {K : Act → World → Prop} {a : Act} (hO : Only S w w') (hK : ∀ a w, Q .normal a w → K a w) (h : Q .normal a w') : CheckQ (fun W => ∃ p : Within S w, W = p.W) Q K .normal a w' := ⟨⟨⟨w', hO⟩, rfl⟩, hK _ _ h⟩
theorem wp_region_in2 {id : Nat} {a : Act} {w : World} (S H A G B T2 : List Nat) (hm : P.follows .mixedOrders = true) (hB : planB2 .any l.toArray H A G B T2 = true) (hQ : ∀ c d u a w, Q (.panic c) (Act.put a d u) w → Q (.panic c) a w)
    (h : wpQuiet P l.toArray (fun W => ∃ p : Within S w, W = p.W) (fun a' => wpT1 P l.toArray (fun W => ∃ p : Within S w, W = p.W) Q (opsAt l A) (fun a W => wpQuiet P l.toArray (fun W => ∃ p : Within S w, W = p.W) (fun a' => wpT1 P l.toArray (fun W => ∃ p : Within S w, W = p.W) Q (opsAt l B) (fun a w => wpList P l.toArray Q (opsAt l T2) a w) a' W) (opsAt l G) a) a' w.drew) (opsAt l H) a) : (Code.region id l.toArray true).wp P Q a w :=
  wp_region_plan2 H A G B T2 hm hB hQ ⟨⟨_, (Only.refl S w).drew⟩, rfl⟩ h
end
end Go.Proofs.YthjgplgfcbhihaaGreat
/- Regions that draw their order: plans of many parts, and invariants over all orders; what a call keeps. No program is named. -/
set_option linter.unusedVariables false
set_option linter.unusedSimpArgs false
namespace Go.Proofs.YthjgplgfcbhihaaGreat
open Go Go.RowKit Go.Sort
/-! ## what a call keeps: the blocks below a, and those of R -/
structure Keeps (a : World) (R : List Nat) (w w' : World) : Prop where
  ex : ∃ S, Only S w w' ∧ ∀ g ∈ S, a.heap.size ≤ g ∧ g ∉ R
section
variable {a w w' w'' : World} {R R' : List Nat}
theorem Keeps.of0 (h : Only [] w w') : Keeps a R w w' := ⟨[], h, by simp⟩
theorem Keeps.refl (a : World) (R : List Nat) (w : World) : Keeps a R w w := .of0 (Only.refl _ _)
theorem Keeps.trans (h : Keeps a R w w') (k : Keeps a R w' w'') : Keeps a R w w'' := by
  obtain ⟨S, h1, h2⟩ := h
  obtain ⟨T, k1, k2⟩ := k
  refine ⟨S ++ T, (h1.mono (fun g hg => List.mem_append_left _ hg)).trans (k1.mono (fun g hg => List.mem_append_right _ hg)), fun g hg => ?_⟩
  rcases List.mem_append.1 hg with q | q
  · exact h2 g q
  · exact k2 g q
theorem Keeps.then0 (h : Keeps a R w w') (k : Only [] w' w'') : Keeps a R w w'' := h.trans (.of0 k)
theorem Keeps.alloc (h : Keeps a R w w') (o : Obj) : Keeps a R w (w'.alloc o) := h.then0 ((Only.refl _ _).alloc o)
theorem Keeps.drew (h : Keeps a R w w') : Keeps a R w w'.drew := h.then0 (Only.refl _ _).drew
theorem Keeps.setCell (h : Keeps a R w w') {p : Addr} (hp : a.heap.size ≤ p.block ∧ p.block ∉ R) (u : Value) : Keeps a R w (w'.setCell p u) :=
  h.trans ⟨[p.block], (Only.refl _ _).setCell (.inl (by simp)) u, by simpa using hp⟩
theorem Keeps.less (h : Keeps a R w w') (hr : ∀ g ∈ R', g ∈ R) : Keeps a R' w w' := by
  obtain ⟨S, h1, h2⟩ := h
  exact ⟨S, h1, fun g hg => ⟨(h2 g hg).1, fun q => (h2 g hg).2 (hr g q)⟩⟩
theorem Keeps.size (h : Keeps a R w w') : w.heap.size ≤ w'.heap.size := by
  obtain ⟨S, h1, _⟩ := h
  exact h1.size
theorem Keeps.block (h : Keeps a R w w') {g : Nat} (hl : g < w.heap.size) (hg : g < a.heap.size ∨ g ∈ R) : w'.heap[g]? = w.heap[g]? := by
  obtain ⟨S, h1, h2⟩ := h
  refine h1.block g hl fun q => ?_
  have := h2 g q
  rcases hg with hg | hg
  · omega
  · exact this.2 hg
theorem Keeps.blk (h : Keeps a R w w') {g : Nat} {t : TypeId} {cs : Array Value} (hb : Blk w g t cs) (hg : g < a.heap.size ∨ g ∈ R) : Blk w' g t cs := hb.of_eq (h.block hb.lt hg)
theorem Keeps.cell (h : Keeps a R w w') {p : Addr} (hl : p.block < w.heap.size) (hg : p.block < a.heap.size ∨ p.block ∈ R) : w'.cell? p = w.cell? p := World.cell?_of_block (h.block hl hg)
theorem Keeps.slc (h : Keeps a R w w') {size n : Nat} {v : Value} {cs : List Value} (hs : Slc w size v n cs) (hg : ∀ g, v.ownBlock = some g → g < a.heap.size ∨ g ∈ R) : Slc w' size v n cs :=
  hs.keep h.size fun g h1 h2 => h.block h2 (hg g h1)
theorem Keeps.own (h : Keeps a R w w') {base size n : Nat} {e : TypeId} {v : Value} {xs : List Value} (hs : w.ownsRow base e size v n xs) (hg : ∀ g, v.ownBlock = some g → g < a.heap.size ∨ g ∈ R) : w'.ownsRow base e size v n xs := by
  obtain ⟨h1, h2⟩ := hs
  rcases h2 with ⟨rfl, rfl⟩ | ⟨g, cap, cur, rfl, hb, hg', q⟩
  · exact ⟨h1, .inl ⟨rfl, rfl⟩⟩
  · exact ⟨h1, .inr ⟨g, cap, cur, rfl, hb, (h.block (lt_of_block hg') (hg g rfl)).trans hg', q⟩⟩
theorem Keeps.only (h : Keeps a R w w') (ha : Only [] a w) : Only [] a w' := by
  obtain ⟨S, h1, h2⟩ := h
  exact ha.step h1 (fun g hg => .inr (h2 g hg).1)
/-- A world that a call may leave. -/
structure Kept (a : World) (R : List Nat) (w : World) where
  W : World
  h : Keeps a R w W
instance (a : World) (R : List Nat) (w : World) : Nonempty (Kept a R w) := ⟨⟨w, Keeps.refl a R w⟩⟩
theorem Kept.cell {x : Addr} {v : Value} (hc : w.cell? x = some v) (hn : x.block < a.heap.size ∨ x.block ∈ R) (p : Kept a R w) : p.W.cell? x = some v := (p.h.cell (block_lt_of_cell hc) hn).trans hc
end
/-! ## plans of many parts -/
section
variable {P : Program} {md : Region.Mode} {C : World → Prop} {Q : Exit → Act → World → Prop} {l : List Oper}
def stagesTo (md : Region.Mode) (ops : Array Oper) (S : Array Bool → Bool) : List (List Nat × List Nat) → Array Bool → Bool
  | [], listed => S listed
  | (H, A) :: r, listed => headTo md ops (seqTo md ops (stagesTo md ops S r) A) H listed
def wpStages (P : Program) (l : List Oper) (C : World → Prop) (Q : Exit → Act → World → Prop) (K : Act → World → Prop) : List (List Nat × List Nat) → Act → World → Prop
  | [] => K
  | (H, A) :: r => fun a w => wpQuiet P l.toArray C (fun a' => wpT1 P l.toArray C Q (opsAt l A) (wpStages P l C Q K r) a' w) (opsAt l H) a
def stLen : List (List Nat × List Nat) → Nat → Nat
  | [], n => n
  | (H, A) :: r, n => H.length + (A.length + stLen r n)
theorem plan_stages {H T1 : List Nat} {n : Nat} {S : Array Bool → Bool} {K : Act → World → Prop} (hsel : Region.noSelect l.toArray = true) (hQ : ∀ c d u a w, Q (.panic c) (Act.put a d u) w → Q (.panic c) a w)
    (hK : ∀ listed a w, S listed = true → K a w → AnyP P md l.toArray C Q H T1 n listed a w) :
    ∀ (st : List (List Nat × List Nat)) (listed : Array Bool) (a : Act) (w : World), (∀ p ∈ st, (∀ h ∈ p.1, h ∈ H ∧ plainAt l.toArray h = true) ∧ ∀ t ∈ p.2, t ∉ H) → stagesTo md l.toArray S st listed = true → wpStages P l C Q K st a w →
      AnyP P md l.toArray C Q H T1 (stLen st n) listed a w
  | [], listed, a, w, _, hs, h => hK listed a w hs h
  | (H1, A) :: r, listed, a, w, hd, hs, h =>
    plan_Hn (S := seqTo md l.toArray (stagesTo md l.toArray S r) A) hsel hQ
      (fun listed a hs h => plan_A (S := stagesTo md l.toArray S r) (fun listed a w hs h => plan_stages hsel hQ hK r listed a w (fun p hp => hd p (by simp [hp])) hs h) A listed a w (hd (H1, A) (by simp)).2 hs h)
      H1 listed a (hd (H1, A) (by simp)).1 hs h
def stOrder : List (List Nat × List Nat) → List Nat
  | [] => []
  | (H, A) :: r => H ++ (A ++ stOrder r)
def planS (md : Region.Mode) (ops : Array Oper) (st : List (List Nat × List Nat)) (T2 : List Nat) : Bool :=
  (Region.noSelect ops && ((st.flatMap (·.1)).all (plainAt ops) && (st.flatMap (·.2)).all (fun i => !(st.flatMap (·.1)).contains i))) &&
    (((List.range ops.size).all (fun i => (st.flatMap (·.1)).contains i || ((st.flatMap (·.2)).contains i || T2.contains i)) && T2.all (fun i => !(st.flatMap (·.1)).contains i && !(st.flatMap (·.2)).contains i)) &&
      ((st.flatMap (·.1)).all (fun i => (stOrder st).contains i) && (decide (stLen st T2.length = ops.size) && (behindB md ops (stOrder st) T2 && stagesTo md ops (seqL md ops T2) st (Array.replicate ops.size false)))))
theorem wp_region_stages {id : Nat} {a : Act} {w : World} (st : List (List Nat × List Nat)) (T2 : List Nat) (hm : P.follows .mixedOrders = true) (hB : planS .any l.toArray st T2 = true) (hQ : ∀ c d u a w, Q (.panic c) (Act.put a d u) w → Q (.panic c) a w) (hC : C w.drew)
    (h : wpStages P l C Q (fun a w => wpList P l.toArray Q (opsAt l T2) a w) st a w.drew) : (Code.region id l.toArray true).wp P Q a w := by
  simp only [planS, Bool.and_eq_true, decide_eq_true_eq, List.all_eq_true, Bool.or_eq_true, List.contains_iff_mem, Bool.not_eq_true'] at hB
  obtain ⟨⟨hsel, hpl, hd1⟩, ⟨hcov, hd2⟩, hz, hlen, hbe, hst⟩ := hB
  refine wp_region_any hm ?_
  have inv0 : Closed .any l.toArray (Array.replicate l.toArray.size false) := fun j oj _ hl => by rw [getD_replicate_false] at hl; cases hl
  have no : ∀ {L : List Nat} {t : Nat}, L.contains t = false → t ∉ L := fun {L t} h q => by rw [List.contains_eq_mem, decide_eq_true q] at h; cases h
  have := plan_stages (C := C) (md := .any) (H := st.flatMap (·.1)) (T1 := st.flatMap (·.2)) (S := seqL .any l.toArray T2) hsel hQ
    (fun listed a w hs h => plan_T2 T2 listed a w (fun t ht => ⟨no (hd2 t ht).1, no (hd2 t ht).2⟩) hs h) st _ a w.drew
    (fun p hp => ⟨fun x hx => ⟨List.mem_flatMap.2 ⟨p, hp, hx⟩, hpl x (List.mem_flatMap.2 ⟨p, hp, hx⟩)⟩, fun t ht => no (hd1 t (List.mem_flatMap.2 ⟨p, hp, ht⟩))⟩) hst h
  rw [hlen] at this
  exact anyP_anyZ hbe (fun x hx => hz x hx) (fun i hi => by
    rcases hcov i (List.mem_range.2 hi) with q | q | q
    · exact .inl q
    · exact .inr (.inl q)
    · exact .inr (.inr q)) _ _ _ _ inv0 (.inl hC) this
/-! ## an invariant over all orders -/
def reachB (md : Region.Mode) (ops : Array Oper) (T : List Nat) : Nat → Array Bool → Bool
  | 0, listed => (Region.ready md ops listed).isEmpty && T.all fun t => listed.getD t false
  | f + 1, listed => !(Region.ready md ops listed).isEmpty && (Region.ready md ops listed).all fun i => reachB md ops T f (listed.setIfInBounds i true)
def listedOf (n : Nat) (H : List Nat) : Array Bool := H.foldl (fun a i => a.setIfInBounds i true) (Array.replicate n false)
def planI (md : Region.Mode) (ops : Array Oper) (H T : List Nat) : Bool :=
  (Region.noSelect ops && H.all (plainAt ops)) && (((List.range ops.size).all (fun i => H.contains i || T.contains i) && T.all (fun i => !H.contains i)) &&
    (decide (H.length + T.length = ops.size) && headTo md ops (fun listed => decide (listed = listedOf ops.size H) && reachB md ops T T.length listed) H (Array.replicate ops.size false)))
theorem flag_set {listed : Array Bool} {i : Nat} (h : listed.getD i true = false) (j : Nat) : (listed.setIfInBounds i true).getD j false = (decide (i = j) || listed.getD j false) := by
  have hi : i < listed.size := by
    rcases Nat.lt_or_ge i listed.size with q | q
    · exact q
    · simp [Array.getElem?_eq_none q] at h
  by_cases e : i = j
  · subst e
    simp [hi]
  · simp [e, Array.getElem?_setIfInBounds_ne e]
theorem plan_inv {H T : List Nat} {Inv : Array Bool → Act → World → Prop} (hcov : ∀ i, i < l.length → i ∈ H ∨ i ∈ T) (hd : ∀ t ∈ T, t ∉ H)
    (hstep : ∀ i ∈ T, ∀ listed a w, i ∈ Region.ready md l.toArray listed → Inv listed a w → wpList P l.toArray (CheckQ C Q (Inv (listed.setIfInBounds i true))) (opsAt l [i]) a w)
    (hend : ∀ listed a w, Inv listed a w → (∀ t ∈ T, listed.getD t false = true) → Q .normal a w) :
    ∀ (n : Nat) (listed : Array Bool) (a : Act) (w : World), (∀ h ∈ H, listed.getD h false = true) → reachB md l.toArray T n listed = true → Inv listed a w → AnyP P md l.toArray C Q H T n listed a w
  | 0, listed, a, w, _, hr, h => by
    simp only [reachB, Bool.and_eq_true, List.all_eq_true] at hr
    exact ⟨by simpa using hr.1, hend listed a w h hr.2⟩
  | n + 1, listed, a, w, hH, hr, h => by
    simp only [reachB, Bool.and_eq_true, List.all_eq_true, Bool.not_eq_true'] at hr
    refine ⟨fun q => by rw [q] at hr; simp at hr, fun i hi => ?_⟩
    obtain ⟨hun, o, ho, _⟩ := mem_ready.1 hi
    have ho' : l[i]? = some o := by simpa using ho
    have hiH : i ∉ H := fun q => by
      have := hH i q
      rw [getD_both hun] at this
      cases this
    have hlt : i < l.length := (List.getElem?_eq_some_iff.1 ho').1
    have hiT : i ∈ T := (hcov i hlt).resolve_left hiH
    refine .inr ⟨hiH, ?_⟩
    have hs := hstep i hiT listed a w hi h
    rw [opsAt_cons ho'] at hs
    have hw := wpOp_check (i := i) ho hs
    exact wpOp_mono (fun a' w' h' => ⟨fun _ => h'.1, plan_inv hcov hd hstep hend n _ a' w' (fun x hx => getD_set_true (hH x hx)) (hr.2 i hi) h'.2⟩) hw
theorem listedOf_true {H : List Nat} (hpl : ∀ x ∈ H, plainAt l.toArray x = true) : ∀ h ∈ H, (listedOf l.toArray.size H).getD h false = true := by
  have step : ∀ (L : List Nat) (A : Array Bool) (h : Nat), A.size = l.toArray.size → (h ∈ L ∧ h < l.toArray.size ∨ A.getD h false = true) → (L.foldl (fun a i => a.setIfInBounds i true) A).getD h false = true := by
    intro L
    induction L with
    | nil => intro A h _ q; rcases q with ⟨q, _⟩ | q; cases q; exact q
    | cons x L ih =>
      intro A h hs q
      refine ih _ h (by simpa using hs) ?_
      rcases q with ⟨q, hlt⟩ | q
      · rcases List.mem_cons.1 q with rfl | q
        · right
          simp [hs ▸ hlt]
        · exact .inl ⟨q, hlt⟩
      · exact .inr (getD_set_true q)
  intro h hh
  refine step H _ h (by simp) (.inl ⟨hh, ?_⟩)
  have := hpl h hh
  unfold plainAt at this
  split at this
  · rename_i o ho
    exact (Array.getElem?_eq_some_iff.1 ho).1
  · cases this
/-- The invariant is chosen behind the reads. -/
def InvGo (P : Program) (l : List Oper) (C : World → Prop) (Q : Exit → Act → World → Prop) (H T : List Nat) (a0 : Act) (w0 : World) : Prop :=
  ∃ Inv : Array Bool → Act → World → Prop, Inv (listedOf l.toArray.size H) a0 w0 ∧
    (∀ i ∈ T, ∀ listed a w, i ∈ Region.ready .any l.toArray listed → Inv listed a w → wpList P l.toArray (CheckQ C Q (Inv (listed.setIfInBounds i true))) (opsAt l [i]) a w) ∧
    ∀ listed a w, Inv listed a w → (∀ t ∈ T, listed.getD t false = true) → Q .normal a w
theorem inv_intro {H T : List Nat} {a0 : Act} {w0 : World} (I : Act → Array Bool → Act → World → Prop) (h0 : I a0 (listedOf l.toArray.size H) a0 w0)
    (hstep : ∀ i ∈ T, ∀ listed a w, i ∈ Region.ready .any l.toArray listed → I a0 listed a w → wpList P l.toArray (CheckQ C Q (I a0 (listed.setIfInBounds i true))) (opsAt l [i]) a w)
    (hend : ∀ listed a w, I a0 listed a w → (∀ t ∈ T, listed.getD t false = true) → Q .normal a w) : InvGo P l C Q H T a0 w0 := ⟨I a0, h0, hstep, hend⟩
theorem wp_region_inv2 {id : Nat} {a : Act} {w : World} (H T : List Nat) (hm : P.follows .mixedOrders = true) (hB : planI .any l.toArray H T = true) (hQ : ∀ c d u a w, Q (.panic c) (Act.put a d u) w → Q (.panic c) a w) (hC : C w.drew)
    (h : wpQuiet P l.toArray C (fun a' => InvGo P l C Q H T a' w.drew) (opsAt l H) a) : (Code.region id l.toArray true).wp P Q a w := by
  simp only [planI, Bool.and_eq_true, decide_eq_true_eq, List.all_eq_true, Bool.or_eq_true, List.contains_iff_mem, Bool.not_eq_true'] at hB
  obtain ⟨⟨hsel, hpl⟩, ⟨hcov, hd1⟩, hlen, hhd⟩ := hB
  refine wp_region_any hm ?_
  have inv0 : Closed .any l.toArray (Array.replicate l.toArray.size false) := fun j oj _ hl => by rw [getD_replicate_false] at hl; cases hl
  have no : ∀ {L : List Nat} {t : Nat}, L.contains t = false → t ∉ L := fun {L t} h q => by rw [List.contains_eq_mem, decide_eq_true q] at h; cases h
  have hl0 := listedOf_true (l := l) hpl
  have := plan_Hn (C := C) (md := .any) (H := H) (T1 := T) (n := T.length) (S := fun listed => decide (listed = listedOf l.toArray.size H) && reachB .any l.toArray T T.length listed) (L := fun a' => InvGo P l C Q H T a' w.drew) (w := w.drew) hsel hQ
    (fun listed a hs h => by
      simp only [Bool.and_eq_true, decide_eq_true_eq] at hs
      obtain ⟨rfl, hs⟩ := hs
      obtain ⟨Inv, h0, hstep, hend⟩ := h
      exact plan_inv (C := C) (fun i hi => hcov i (by simpa using hi)) (fun t ht => no (hd1 t ht)) hstep hend T.length _ a w.drew hl0 hs h0) H _ a (fun h hh => ⟨hh, hpl h hh⟩) hhd h
  rw [hlen] at this
  exact anyP_any (T2 := []) rfl (fun i hi => by
    rcases hcov i (List.mem_range.2 hi) with q | q
    · exact .inl q
    · exact .inr (.inl q)) _ _ _ _ inv0 (.inl hC) this
/-- What a ready operation tells of the flags. -/
theorem ready_dep {listed : Array Bool} {i : Nat} (hr : i ∈ Region.ready md l.toArray listed) (j : Nat) (hw : Region.waitsFor md l.toArray i j = true) : listed.getD j false = true := by
  obtain ⟨oj, hoj, e, he, hb, hon⟩ := Region.waitsFor_spec hw
  obtain ⟨_, o', ho', hall⟩ := mem_ready.1 hr
  have : o' = oj := Option.some.inj (ho'.symm.trans hoj)
  subst this
  rw [← hon]; exact hall e he hb
theorem ready_self {listed : Array Bool} {i : Nat} (hr : i ∈ Region.ready md l.toArray listed) : listed.getD i false = false ∧ listed.getD i true = false := ⟨getD_both (mem_ready.1 hr).1, (mem_ready.1 hr).1⟩
/-- Behind an early operation: the class Kept. -/
theorem check_kept {a0 : World} {R : List Nat} {w w' : World} {K : Act → World → Prop} {a : Act} (hO : Keeps a0 R w w') (h : K a w') : CheckQ (fun W => ∃ p : Kept a0 R w, W = p.W) Q K .normal a w' := ⟨⟨⟨w', hO⟩, rfl⟩, h⟩
end
end Go.Proofs.YthjgplgfcbhihaaGreat
/- Contracts: insert, remove; none, is, open, Join, New. -/
set_option linter.unusedVariables false
set_option linter.unusedSimpArgs false
namespace Go.Proofs.YthjgplgfcbhihaaGreat
open Go.RowKit Go Go.Sort
theorem infoI : (Tryz.prog.info? 3).map (fun i => (i.zero, i.size, i.bytes)) = some (some (.int .i64 0), 1, 8) := by kernel_rfl
theorem sizeIV (w : World) : (Go.sizeOf 3).run Tryz.prog w = .ok 1 w := by kernel_rfl
set_option maxRecDepth 100000 in
theorem insert_any {w : World} {v : Value} {xs : List Int} (h : Own w v xs) (hr : Ris xs) (hb : xs.length ≤ 1000000000) (n : Int) :
    Calls Tryz.prog 78 #[v, .int .i64 n] w fun e w' => ∃ v', e = .returned v' ∧ RowTo w v w' v' (insL xs n) := by
  have hB := bsearch_any h.slc hr hb n
  have hlb := lb_le xs n
  obtain ⟨A, cap, rfl, _, _⟩ := own_form h
  cases hc : xs.contains n with
  | true =>
    have hR : insL xs n = xs := by unfold insL; rw [if_pos hc]
    rw [hR]
    rw [hc] at hB
    have HB := Lib.hid hB
    clear hB hc hR
    go_enter Tryz.func78, Tryz.ntmps78
    go_wp2_with (go_at_call 102; refine HB.out.mono ?_; rintro e w1 ⟨rfl, ho1⟩)
    go_ret
    exact ⟨_, rfl, RowTo.same h ho1⟩
  | false =>
    have hR : insL xs n = xs.take (lb xs n) ++ n :: xs.drop (lb xs n) := by unfold insL; rw [hc]; rfl
    rw [hR]
    rw [hc] at hB
    obtain ⟨i, hi⟩ : ∃ i, i = lb xs n := ⟨_, rfl⟩
    rw [← hi] at hB hlb ⊢
    have HB := Lib.hid hB
    have hlt := h.lt
    clear hB hc hR hi
    go_enter Tryz.func78, Tryz.ntmps78
    go_wp2_with (first
      | (go_at_call 102; refine HB.out.mono ?_; rintro e w1 ⟨rfl, ho1⟩)
      | (go_at_call 103; refine (insertI_any ((h.only0 ho1).only0 ((Only.refl [] w1).alloc _)) hb hlb (Blk.new w1 3 _) (fun g hg => by have := hlt g hg; have := ho1.size; omega)).mono ?_; rintro e w2 ⟨v2, rfl, ho2⟩))
    go_ret
    exact ⟨_, rfl, RowTo.first0 (ho1.alloc _) ho2⟩
set_option maxRecDepth 100000 in
theorem remove_any {w : World} {v : Value} {xs : List Int} (h : Own w v xs) (hr : Ris xs) (hb : xs.length ≤ 1000000000) (n : Int) :
    Calls Tryz.prog 104 #[v, .int .i64 n] w fun e w' => ∃ v', e = .returned (.tuple #[v', .bool (xs.contains n)]) ∧ RowTo w v w' v' (remL xs n) := by
  have hB := bsearch_any h.slc hr hb n
  have hf := lb_found (n := n) hr
  obtain ⟨A, cap, rfl, _, _⟩ := own_form h
  cases hc : xs.contains n with
  | false =>
    have hR : remL xs n = xs := by unfold remL; rw [hc]; rfl
    rw [hR]
    rw [hc] at hB
    have HB := Lib.hid hB
    clear hB hc hR
    go_enter Tryz.func104, Tryz.ntmps104
    go_wp2_with (go_at_call 102; refine HB.out.mono ?_; rintro e w1 ⟨rfl, ho1⟩)
    go_ret2
    exact ⟨_, rfl, RowTo.same h ho1⟩
  | true =>
    have hR : remL xs n = xs.take (lb xs n) ++ xs.drop (lb xs n + 1) := by unfold remL; rw [if_pos hc]
    have hlt : lb xs n < xs.length := (List.getElem?_eq_some_iff.1 (hf hc)).1
    rw [hR]
    rw [hc] at hB
    obtain ⟨i, hi⟩ : ∃ i, i = lb xs n := ⟨_, rfl⟩
    rw [← hi] at hB hlt ⊢
    have HB := Lib.hid hB
    have hD := fun (W : World) (hW : Only [] w W) => deleteI_any (h.only0 hW) hb hlt
    obtain ⟨ys, hys⟩ : ∃ ys, ys = xs.take i ++ xs.drop (i + 1) := ⟨_, rfl⟩
    rw [← hys] at hD ⊢
    rw [Int.natCast_add, show ((1 : Nat) : Int) = 1 from rfl] at hD
    have HD := Lib.hid hD
    clear hB hc hR hi hf hD hys
    go_enter Tryz.func104, Tryz.ntmps104
    go_wp2_with (first
      | (go_at_call 102; refine HB.out.mono ?_; rintro e w1 ⟨rfl, ho1⟩)
      | (go_at_call 77; refine (HD.out _ ho1).mono ?_; rintro e w2 ⟨v2, rfl, ho2⟩; obtain ⟨A2, cap2, rfl, _, _⟩ := own_form ho2.own))
    go_ret2
    exact ⟨_, rfl, RowTo.first0 ho1 ho2⟩
section
variable {w : World} {gb fb tb : Nat} {vw vp va vs : Value} {pf : ByteArray → Value} {g : GS}
set_option maxRecDepth 100000 in
theorem none_any (h : GAt w gb fb tb vw vp va vs pf g) : Calls Tryz.prog 22 #[.pointer (some ⟨gb, 0, none⟩)] w fun e w' => e = .returned (.bool false) ∧ w = w' := by
  have c5 : w.cell? ⟨gb, 5, none⟩ = some (.map (some fb)) := h.blk.cell 5
  have hne := fun w => run_eql_map_nil (P := Tryz.prog) w 57 _ _ (some fb) Tryz.underlying57
  clear h
  go_enter Tryz.func22, Tryz.ntmps22
  go_wp2
  go_ret
  exact ⟨rfl, rfl⟩
set_option maxRecDepth 100000 in
theorem noneN_any (w : World) : Calls Tryz.prog 22 #[.pointer none] w fun e w' => e = .returned (.bool true) ∧ w = w' := by
  go_enter Tryz.func22, Tryz.ntmps22
  go_wp2
  go_ret
  exact ⟨rfl, rfl⟩
theorem zeroInts (w : World) : (zeroValue 43).run Tryz.prog w = .ok (.slice none 0 0) w := by kernel_rfl
theorem zeroInt (w : World) : (zeroValue 3).run Tryz.prog w = .ok (.int .i64 0) w := by kernel_rfl
theorem flightIs (g : GS) (pf : ByteArray → Value) (who : ByteArray) : (aget (g.flight.map fun p => (p.1, pf p.1)) who).isSome = g.is who := by
  rw [aget_mapk (fun k _ => pf k)]
  unfold GS.is
  cases aget g.flight who <;> rfl
set_option maxRecDepth 100000 in
theorem is_any (h : GAt w gb fb tb vw vp va vs pf g) (who : ByteArray) : Calls Tryz.prog 23 #[.pointer (some ⟨gb, 0, none⟩), .string who] w fun e w' => e = .returned (.bool (g.is who)) ∧ w = w' := by
  have c5 : w.cell? ⟨gb, 5, none⟩ = some (.map (some fb)) := h.blk.cell 5
  have HN := Lib.hid (none_any h)
  have HI := Lib.hid (flightIs g pf who)
  go_enter Tryz.func23, Tryz.ntmps23
  go_wp2_with (first
    | (go_at_call 22; refine HN.out.mono ?_; rintro e w1 ⟨rfl, rfl⟩)
    | (refine wpList_lookup_ok_is rfl 57 rfl keyEnc_string Tryz.underlying57 Tryz.underlying9 (zeroInts _) who rfl rfl h.flight _ _ rfl HI.out ?_))
  go_ret
  exact ⟨rfl, rfl⟩
theorem isN_any (who : ByteArray) (w : World) : Calls Tryz.prog 23 #[.pointer none, .string who] w fun e w' => e = .returned (.bool false) ∧ w = w' := by
  go_enter Tryz.func23, Tryz.ntmps23
  go_wp2_with (go_at_call 22; refine (noneN_any _).mono ?_; rintro e w1 ⟨rfl, rfl⟩)
  go_ret
  exact ⟨rfl, rfl⟩
/-- The row of somebody's flight: nil, where he isn't there. -/
def fv (pf : ByteArray → Value) (g : GS) (who : ByteArray) : Value := if g.is who then pf who else .slice none 0 0
theorem flightOf (g : GS) (pf : ByteArray → Value) (who : ByteArray) : (aget (g.flight.map fun p => (p.1, pf p.1)) who).getD (.slice none 0 0) = fv pf g who := by
  rw [aget_mapk (fun k _ => pf k)]
  unfold fv GS.is
  cases aget g.flight who <;> rfl
theorem GAt.fl (h : GAt w gb fb tb vw vp va vs pf g) (who : ByteArray) : Own w (fv pf g who) (g.fl who) := by
  unfold fv GS.is GS.fl
  cases hx : aget g.flight who with
  | none => exact Own.nil w
  | some l =>
    refine h.rows.own (pf who, l) ?_
    unfold rowsOf
    simp only [List.mem_cons]
    exact .inr (.inr (.inr (.inr (List.mem_map.2 ⟨(who, l), aget_mem hx, rfl⟩))))
theorem GAt.ownW (h : GAt w gb fb tb vw vp va vs pf g) : Own w vw g.waiting := h.rows.own (vw, g.waiting) (by simp [rowsOf])
theorem GAt.ownP (h : GAt w gb fb tb vw vp va vs pf g) : Own w vp g.parked := h.rows.own (vp, g.parked) (by simp [rowsOf])
theorem GAt.ownA (h : GAt w gb fb tb vw vp va vs pf g) : Own w va g.acked := h.rows.own (va, g.acked) (by simp [rowsOf])
theorem GAt.ownS (h : GAt w gb fb tb vw vp va vs pf g) : Own w vs g.skipped := h.rows.own (vs, g.skipped) (by simp [rowsOf])
theorem triesOf (g : GS) (n : Int) : (aget (g.tries.map fun p => (p.1, Value.int .i64 p.2)) n).getD (.int .i64 0) = .int .i64 (g.tr n) := by
  rw [aget_mapk (fun _ k => Value.int .i64 k)]
  unfold GS.tr
  cases aget g.tries n <;> rfl
set_option maxRecDepth 100000 in
theorem tries_any (h : GAt w gb fb tb vw vp va vs pf g) (n : Int) : Calls Tryz.prog 48 #[.pointer (some ⟨gb, 0, none⟩), .int .i64 n] w fun e w' => e = .returned (.int .i64 (g.tr n)) ∧ w = w' := by
  have c9 : w.cell? ⟨gb, 9, none⟩ = some (.map (some tb)) := h.blk.cell 9
  have HN := Lib.hid (none_any h)
  have HI := Lib.hid (triesOf g n)
  go_enter Tryz.func48, Tryz.ntmps48
  go_wp2_with (first
    | (go_at_call 22; refine HN.out.mono ?_; rintro e w1 ⟨rfl, rfl⟩)
    | (refine wpList_lookup_is rfl 58 rfl (keyEnc_int .i64) Tryz.underlying58 Tryz.underlying3 (zeroInt _) n rfl rfl h.tries _ HI.out ?_))
  go_ret
  exact ⟨rfl, rfl⟩
set_option maxRecDepth 100000 in
theorem clone_any {w : World} {v : Value} {xs : List Int} (h : Slc w 1 v xs.length (ints xs)) (hb : xs.length ≤ 1000000000) :
    Calls Tryz.prog 19 #[v] w fun e w' => ∃ v', e = .returned v' ∧ Own w' v' xs ∧ (∀ g, v'.ownBlock = some g → w.heap.size ≤ g) ∧ Only [] w w' := by
  obtain ⟨i0, hi, hz0, hz1, hz2⟩ := info_parts infoI
  obtain ⟨A, cap, rfl, hnc, hcm, hl, hc⟩ := h.cell
  have hq := fun W a n c n' c' => Lib.run_eql_slice_nil (P := Tryz.prog) W 43 _ a n c n' c' Tryz.underlying43
  cases A with
  | none =>
    have h0 : xs = [] := by
      rcases hc with q | ⟨b, off, q, _⟩
      · exact List.length_eq_zero_iff.1 q
      · cases q
    subst h0
    go_enter Tryz.func19, Tryz.ntmps19
    go_wp2
    go_ret
    exact ⟨_, rfl, Own.nil _, (fun g hg => by cases hg), Only.refl _ _⟩
  | some ad =>
    obtain ⟨b, off, sp⟩ := ad
    have hcell : ∀ j u, (ints xs)[j]? = some u → (w.alloc (.cells #[] 3)).cell? ((⟨b, off, sp⟩ : Addr).add j) = some u := by
      intro j u hu
      have hj : j < (ints xs).length := (List.getElem?_eq_some_iff.1 hu).1
      rcases hc with q | ⟨b', off', q, hb', hcc⟩
      · rw [hl] at hj; omega
      · cases q
        have := hcc j hj
        rw [hu] at this
        rw [show ((⟨b, off, none⟩ : Addr).add j) = ⟨b, off + j, none⟩ by simp [Addr.add]]
        exact (World.cell?_alloc_lt w _ ⟨b, off + j, none⟩ hb').trans this
    have hcl : (ints xs).length = xs.length * 1 := hl
    unfold maxLen at hcm
    clear hl hc
    go_enter Tryz.func19, Tryz.ntmps19
    go_wp2_with (at_builtin; refine wpList_append_own _ rfl (.tmp 5) (.tmp 6) 43 rfl w.heap.size 3 i0 (.int .i64 0) 1 8 Tryz.underlying43 hi hz0 hz1 hz2 rfl (by decide) _ 0 [] rfl (World.ownsRow_made w #[] 0 (Nat.le_refl _) (Nat.zero_le _) rfl) ⟨b, off, sp⟩ xs.length cap (ints xs) rfl hcl hcell ?c2 ?c3 ?c4 ?c5 ?_)
    case c2 => intro u hu; unfold ints at hu; obtain ⟨z, _, rfl⟩ := List.mem_map.1 hu; rfl
    case c3 => unfold maxLen; omega
    case c4 => omega
    case c5 => simp
    intro v' w4 hown' hgrow _
    have hown2 : w4.ownsRow w.heap.size 3 1 v' xs.length (ints xs) := by simpa using hown'
    have ho4 : Only [] w w4 := ((Only.refl [] w).alloc _).grown hgrow (fun k hk => .inr (by cases hk; exact Nat.le_refl _))
    clear hgrow
    go_wp2
    go_ret
    exact ⟨_, rfl, own_base hown2 (Nat.zero_le _), fun g hg => (hown2.lt g hg).1, ho4⟩
/-- What a call gives that clones a row. -/
def RowRet (w : World) (xs : List Int) (e : Ending) (w' : World) : Prop := ∃ v', e = .returned v' ∧ Own w' v' xs ∧ (∀ b, v'.ownBlock = some b → w.heap.size ≤ b) ∧ Only [] w w'
set_option maxRecDepth 100000 in
theorem parked_any (h : GAt w gb fb tb vw vp va vs pf g) (hb : g.parked.length ≤ 1000000000) : Calls Tryz.prog 17 #[.pointer (some ⟨gb, 0, none⟩)] w (RowRet w g.parked) := by
  have c : w.cell? ⟨gb, 6, none⟩ = some vp := h.blk.cell 6
  obtain ⟨A, cap, rfl, _, _⟩ := own_form h.ownP
  have hsl := h.ownP.slc
  have HC := Lib.hid (clone_any hsl hb)
  have HN := Lib.hid (none_any h)
  clear hsl
  go_enter Tryz.func17, Tryz.ntmps17
  go_wp2_with (first
    | (go_at_call 22; refine HN.out.mono ?_; rintro e w1 ⟨rfl, rfl⟩)
    | (go_at_call 19; refine HC.out.mono ?_; rintro e w2 ⟨v2, rfl, ho2, hf2, hk2⟩))
  go_ret
  exact ⟨_, rfl, ho2, hf2, hk2⟩
set_option maxRecDepth 100000 in
theorem waiting_any (h : GAt w gb fb tb vw vp va vs pf g) (hb : g.waiting.length ≤ 1000000000) : Calls Tryz.prog 44 #[.pointer (some ⟨gb, 0, none⟩)] w (RowRet w g.waiting) := by
  have c : w.cell? ⟨gb, 4, none⟩ = some vw := h.blk.cell 4
  obtain ⟨A, cap, rfl, _, _⟩ := own_form h.ownW
  have hsl := h.ownW.slc
  have HC := Lib.hid (clone_any hsl hb)
  have HN := Lib.hid (none_any h)
  clear hsl
  go_enter Tryz.func44, Tryz.ntmps44
  go_wp2_with (first
    | (go_at_call 22; refine HN.out.mono ?_; rintro e w1 ⟨rfl, rfl⟩)
    | (go_at_call 19; refine HC.out.mono ?_; rintro e w2 ⟨v2, rfl, ho2, hf2, hk2⟩))
  go_ret
  exact ⟨_, rfl, ho2, hf2, hk2⟩
set_option maxRecDepth 100000 in
theorem acked_any (h : GAt w gb fb tb vw vp va vs pf g) (hb : g.acked.length ≤ 1000000000) : Calls Tryz.prog 43 #[.pointer (some ⟨gb, 0, none⟩)] w (RowRet w g.acked) := by
  have c : w.cell? ⟨gb, 7, none⟩ = some va := h.blk.cell 7
  obtain ⟨A, cap, rfl, _, _⟩ := own_form h.ownA
  have hsl := h.ownA.slc
  have HC := Lib.hid (clone_any hsl hb)
  have HN := Lib.hid (none_any h)
  clear hsl
  go_enter Tryz.func43, Tryz.ntmps43
  go_wp2_with (first
    | (go_at_call 22; refine HN.out.mono ?_; rintro e w1 ⟨rfl, rfl⟩)
    | (go_at_call 19; refine HC.out.mono ?_; rintro e w2 ⟨v2, rfl, ho2, hf2, hk2⟩))
  go_ret
  exact ⟨_, rfl, ho2, hf2, hk2⟩
set_option maxRecDepth 100000 in
theorem skipped_any (h : GAt w gb fb tb vw vp va vs pf g) (hb : g.skipped.length ≤ 1000000000) : Calls Tryz.prog 42 #[.pointer (some ⟨gb, 0, none⟩)] w (RowRet w g.skipped) := by
  have c : w.cell? ⟨gb, 8, none⟩ = some vs := h.blk.cell 8
  obtain ⟨A, cap, rfl, _, _⟩ := own_form h.ownS
  have hsl := h.ownS.slc
  have HC := Lib.hid (clone_any hsl hb)
  have HN := Lib.hid (none_any h)
  clear hsl
  go_enter Tryz.func42, Tryz.ntmps42
  go_wp2_with (first
    | (go_at_call 22; refine HN.out.mono ?_; rintro e w1 ⟨rfl, rfl⟩)
    | (go_at_call 19; refine HC.out.mono ?_; rintro e w2 ⟨v2, rfl, ho2, hf2, hk2⟩))
  go_ret
  exact ⟨_, rfl, ho2, hf2, hk2⟩
set_option maxRecDepth 100000 in
theorem flight_any (h : GAt w gb fb tb vw vp va vs pf g) (who : ByteArray) (hb : (g.fl who).length ≤ 1000000000) : Calls Tryz.prog 28 #[.pointer (some ⟨gb, 0, none⟩), .string who] w (RowRet w (g.fl who)) := by
  have c5 : w.cell? ⟨gb, 5, none⟩ = some (.map (some fb)) := h.blk.cell 5
  have hsl := (h.fl who).slc
  have HS := Lib.hid (is_any h who)
  have HI := Lib.hid (flightOf g pf who)
  cases hi : g.is who with
  | false =>
    have h0 : g.fl who = [] := by
      unfold GS.is at hi
      unfold GS.fl
      cases hx : aget g.flight who with
      | none => rfl
      | some l => rw [hx] at hi; cases hi
    rw [h0]
    rw [hi] at HS
    clear hsl
    go_enter Tryz.func28, Tryz.ntmps28
    go_wp2_with (go_at_call 23; refine HS.out.mono ?_; rintro e w1 ⟨rfl, rfl⟩)
    go_ret
    exact ⟨_, rfl, Own.nil _, (fun b hb => by cases hb), Only.refl _ _⟩
  | true =>
    rw [hi] at HS
    obtain ⟨fo, hfo⟩ : ∃ fo, fo = fv pf g who := ⟨_, rfl⟩
    rw [← hfo] at hsl HI
    have hC := clone_any hsl hb
    have HC := Lib.hid hC
    clear hsl hC hfo
    go_enter Tryz.func28, Tryz.ntmps28
    go_wp2_with (first
      | (go_at_call 23; refine HS.out.mono ?_; rintro e w1 ⟨rfl, rfl⟩)
      | (refine wpList_lookup_is rfl 57 rfl keyEnc_string Tryz.underlying57 Tryz.underlying9 (zeroInts _) who rfl rfl h.flight _ HI.out ?_)
      | (go_at_call 19; refine HC.out.mono ?_; rintro e w2 ⟨v2, rfl, ho2, hf2, hk2⟩))
    go_ret
    exact ⟨_, rfl, ho2, hf2, hk2⟩
end
end Go.Proofs.YthjgplgfcbhihaaGreat
/- Contracts: open, Checkpoint. -/
set_option linter.unusedVariables false
set_option linter.unusedSimpArgs false
namespace Go.Proofs.YthjgplgfcbhihaaGreat
open Go.RowKit Go Go.Sort
def fvl (pf : ByteArray → Value) (l : List (ByteArray × List Int)) : List (ByteArray × Value) := l.map fun p => (p.1, pf p.1)
theorem fvl_split {pf : ByteArray → Value} {L : List (ByteArray × List Int)} {l1 l2 : List (ByteArray × Value)} {p : ByteArray × Value} (h : fvl pf L = l1 ++ p :: l2) :
    ∃ m1 q m2, L = m1 ++ q :: m2 ∧ l1 = fvl pf m1 ∧ p = (q.1, pf q.1) ∧ l2 = fvl pf m2 := by
  obtain ⟨m1, q, m2, h1, h2, h3, h4⟩ := map_split (f := id) (g := fun p : ByteArray × List Int => (p.1, pf p.1)) rfl ((List.map_id _).trans h.symm)
  exact ⟨m1, q, m2, h1, by simpa [fvl] using h2, h3, by simpa [fvl] using h4⟩
theorem wpList_next_fl {P : Program} {w : World} {r b : Nat} {kv : List (ByteArray × Value)} {pf : ByteArray → Value} {left : List (ByteArray × List Int)} {ops : Array Oper} {rest : List Oper} {o : Oper} {a : Act} {Q : Exit → Act → World → Prop}
    (hg : o.guard = none) {it : Operand} (hop : o.op = .next it false) (hit : a.eval it = .pointer (some ⟨r, 0, none⟩)) (h : IterIs Value.string w r b kv (fvl pf left))
    (hDone : left = [] → wpList P ops Q rest (a.put o.dst (.tuple #[.bool false])) w)
    (hMore : ∀ l1 q l2 w', left = l1 ++ q :: l2 → IterIs Value.string w' r b kv (fvl pf (l1 ++ l2)) → Only [r] w w' → (Instr.entry (.pointer (some ⟨r, 0, none⟩))).run P w' = .ok (.tuple #[.string q.1, pf q.1]) w' →
      wpList P ops Q rest (a.put o.dst (.tuple #[.bool true, .string q.1, pf q.1])) w') : wpList P ops Q (o :: rest) a w :=
  wpList_next_is hg hop hit h (fun h0 => hDone (by simpa [fvl] using h0)) (fun l1 p l2 w' h0 h1 h2 h3 => by
    obtain ⟨m1, q, m2, e1, rfl, rfl, rfl⟩ := fvl_split h0
    exact hMore m1 q m2 w' e1 (by simpa [fvl] using h1) h2 h3)
def flSum (l : List (ByteArray × List Int)) : Nat := (l.map (fun p => p.2.length)).sum
theorem flSum_split (l1 : List (ByteArray × List Int)) (q : ByteArray × List Int) (l2 : List (ByteArray × List Int)) : flSum (l1 ++ q :: l2) = q.2.length + flSum (l1 ++ l2) := by
  simp [flSum]
  omega
theorem least_comm (l m : List Int) (a : Int) : GS.least l (GS.least m a) = GS.least m (GS.least l a) := by
  cases l <;> cases m <;> simp [GS.least] <;> omega
def leastAll (l : List (ByteArray × List Int)) (a : Int) : Int := l.foldl (fun a p => GS.least p.2 a) a
theorem leastAll_split : ∀ (l1 : List (ByteArray × List Int)) (q : ByteArray × List Int) (l2 : List (ByteArray × List Int)) (a : Int), leastAll (l1 ++ q :: l2) a = leastAll (l1 ++ l2) (GS.least q.2 a)
  | [], q, l2, a => rfl
  | p :: l1, q, l2, a => by
    show leastAll (l1 ++ q :: l2) (GS.least p.2 a) = leastAll (l1 ++ l2) (GS.least p.2 (GS.least q.2 a))
    rw [leastAll_split l1 q l2, least_comm]
section
variable {w : World} {gb fb tb N : Nat} {vw vp va vs : Value} {pf : ByteArray → Value} {g : GS}
theorem GAt.row (h : GAt w gb fb tb vw vp va vs pf g) {p : ByteArray × List Int} (hp : p ∈ g.flight) : Own w (pf p.1) p.2 :=
  h.rows.own (pf p.1, p.2) (by
    unfold rowsOf
    simp only [List.mem_cons]
    exact .inr (.inr (.inr (.inr (List.mem_map.2 ⟨p, hp, rfl⟩)))))
theorem GS.Ok.open_le (hok : g.Ok N) : g.openN ≤ 21000 * N := by
  have h1 := hok.len hok.wa
  have h2 : ∀ (l : List (ByteArray × List Int)), (∀ p ∈ l, p.2.length ≤ 1000 * N) → flSum l ≤ l.length * (1000 * N) := by
    intro l
    induction l with
    | nil => intro _; simp [flSum]
    | cons p l ih =>
      intro h
      have h3 := h p (by simp)
      have h4 := ih (fun q hq => h q (by simp [hq]))
      simp only [flSum, List.map_cons, List.sum_cons, List.length_cons] at h4 ⊢
      rw [Nat.add_mul]
      omega
  have h3 := h2 g.flight (fun p hp => hok.len (hok.fl p hp))
  have h4 : g.flight.length * (1000 * N) ≤ 20 * (1000 * N) := Nat.mul_le_mul_right _ hok.few
  have h5 : g.openN = g.waiting.length + flSum g.flight := rfl
  omega
set_option maxRecDepth 100000 in
set_option maxHeartbeats 1000000 in
theorem open_any (h : GAt w gb fb tb vw vp va vs pf g) (hok : g.Ok N) (hN : N ≤ 100000) :
    Calls Tryz.prog 25 #[.pointer (some ⟨gb, 0, none⟩)] w fun e w' => e = .returned (.int .i64 g.openN) ∧ Only [] w w' := by
  have c4 : w.cell? ⟨gb, 4, none⟩ = some vw := h.blk.cell 4
  have c5 : w.cell? ⟨gb, 5, none⟩ = some (.map (some fb)) := h.blk.cell 5
  have hT := hok.open_le
  obtain ⟨T, hTe⟩ : ∃ T, T = g.openN := ⟨_, rfl⟩
  rw [← hTe] at hT ⊢
  have HT : Hid (g.waiting.length + flSum g.flight = T) := by unfold Hid; rw [hTe]; rfl
  have hwl := hok.len hok.wa
  have hrow : ∀ p ∈ g.flight, ∃ A cap, pf p.1 = .slice A p.2.length cap := fun p hp => by
    obtain ⟨A, cap, e, _⟩ := own_form (h.row hp)
    exact ⟨A, cap, e⟩
  have hbnd : ∀ p ∈ g.flight, p.2.length ≤ 1000 * N := fun p hp => hok.len (hok.fl p hp)
  obtain ⟨A, cap, rfl, _, _⟩ := own_form h.ownW
  have hmap := h.flight
  have hlt := h.flight.lt
  clear hTe
  go_enter Tryz.func25, Tryz.ntmps25
  go_wp2_with (first | (at_range; refine wpList_range_is rfl 57 rfl Tryz.underlying57 rfl hmap ?_; intro o' hit))
  go_frame
  go_loopw [3] (fun n wr => ∃ (s : Nat) (left : List (ByteArray × List Int)), n = .int .i64 s ∧ s ≤ T ∧ Hid (s + flSum left = T) ∧ (∀ p ∈ left, p ∈ g.flight) ∧ IterIs Value.string wr w.heap.size fb (fvl pf g.flight) (fvl pf left) ∧ Only [] w wr) (fun _ wr => wr.rangeLeft fb w.heap.size)
  case atStart => exact ⟨g.waiting.length, g.flight, rfl, by have := HT.out; omega, HT, fun p hp => hp, hit, (Only.refl _ _).alloc _⟩
  case round =>
    obtain ⟨s, left, rfl, hsT, hs, hin, hi, ho⟩ := hrel
    go_wp2_with (at_next; refine wpList_next_fl rfl rfl rfl hi ?_ ?_)
    · intro h0
      have hf : Hid (s = T) := by have := hs.out; rw [h0] at this; unfold Hid; simpa [flSum] using this
      clear h0 hs
      go_wp2
      go_ret
      exact ⟨by rw [hf.out]; rfl, ho⟩
    · intro l1 qn ql l2 w' hsp hi' ho' hen
      have hq : (qn, ql) ∈ g.flight := hin _ (by rw [hsp]; simp)
      obtain ⟨Aq, cq, hpq⟩ := hrow _ hq
      have hs2 : Hid (s + ql.length + flSum (l1 ++ l2) = T) := by have := hs.out; rw [hsp, flSum_split] at this; unfold Hid; simp only at this; omega
      have hqT : s + ql.length ≤ T := by have := hs2.out; omega
      have hmu := hi'.left_eq
      have hmu0 := hi.left_eq
      have HL : Hid (w'.rangeLeft fb w.heap.size < wr.rangeLeft fb w.heap.size) := by rw [Hid, hmu, hmu0, hsp]; simp [fvl]
      have hR : Hid (Only [] w w') := ho.step ho' (fun i hi => by simp at hi; subst hi; exact .inr (Nat.le_refl _))
      have hin' : ∀ p ∈ l1 ++ l2, p ∈ g.flight := fun p hp => hin p (by rw [hsp]; rcases List.mem_append.1 hp with q | q <;> simp [q])
      simp only at hpq hen ⊢
      rw [hpq] at hen ⊢
      clear hmu hmu0 hs hsp hi ho ho' hin hpq
      go_wp2
      go_roundw
      case rel => exact ⟨s + ql.length, l1 ++ l2, by go_num, hqT, hs2, hin', hi', hR.out⟩
      case measure => exact HL.out
end
end Go.Proofs.YthjgplgfcbhihaaGreat
/- Contracts: Checkpoint. -/
set_option linter.unusedVariables false
set_option linter.unusedSimpArgs false
namespace Go.Proofs.YthjgplgfcbhihaaGreat
open Go.RowKit Go Go.Sort
section
variable {w : World} {gb fb tb N : Nat} {vw vp va vs : Value} {pf : ByteArray → Value} {g : GS}
set_option maxRecDepth 100000 in
set_option maxHeartbeats 1000000 in
theorem ckpt_any (h : GAt w gb fb tb vw vp va vs pf g) (hok : g.Ok N) (hN : N ≤ 100000) :
    Calls Tryz.prog 18 #[.pointer (some ⟨gb, 0, none⟩)] w fun e w' => e = .returned (.int .i64 g.checkpoint) ∧ Only [] w w' := by
  have c3 : w.cell? ⟨gb, 3, none⟩ = some (.int .i64 g.next) := h.blk.cell 3
  have c4 : w.cell? ⟨gb, 4, none⟩ = some vw := h.blk.cell 4
  have c5 : w.cell? ⟨gb, 5, none⟩ = some (.map (some fb)) := h.blk.cell 5
  have HN := Lib.hid (none_any h)
  have hrow : ∀ p ∈ g.flight, ∃ A cap, pf p.1 = .slice A p.2.length cap ∧ ∀ (hp : 0 < p.2.length), ∃ b off, A = some ⟨b, off, none⟩ ∧ b < w.heap.size ∧ w.cell? ⟨b, off + 0, none⟩ = some (.int .i64 (p.2[0]'hp)) := fun p hp => by
    obtain ⟨A, cap, e, _, _, hel⟩ := (h.row hp).slc.openI
    exact ⟨A, cap, e, fun hp0 => hel 0 hp0⟩
  have hmap := h.flight
  have hlt := h.flight.lt
  obtain ⟨T, hTe⟩ : ∃ T, T = g.checkpoint := ⟨_, rfl⟩
  rw [← hTe]
  have HT : Hid (T = leastAll g.flight (GS.least g.waiting g.next)) := by unfold Hid; rw [hTe]; rfl
  clear hTe
  obtain ⟨A, cap, rfl, _, _, hel⟩ := h.ownW.slc.openI
  obtain ⟨nx, hnx⟩ : ∃ nx, nx = g.next := ⟨_, rfl⟩
  rw [← hnx] at c3 HT
  clear hnx
  cases hw : g.waiting with
  | nil =>
    rw [hw] at c4 HT
    clear hel hw
    have HT0 : Hid (T = leastAll g.flight (nx)) := HT
    go_enter Tryz.func18, Tryz.ntmps18
    go_wp2_with (first
      | (go_at_call 22; refine HN.out.mono ?_; rintro e w1 ⟨rfl, rfl⟩)
      | (at_range; refine wpList_range_is rfl 57 rfl Tryz.underlying57 rfl hmap ?_; intro o' hit))
    go_frame
    go_loopw [3] (fun n wr => ∃ (s : Int) (left : List (ByteArray × List Int)), n = .int .i64 s ∧ Hid (T = leastAll left s) ∧ (∀ p ∈ left, p ∈ g.flight) ∧ IterIs Value.string wr w.heap.size fb (fvl pf g.flight) (fvl pf left) ∧ Only [] w wr) (fun _ wr => wr.rangeLeft fb w.heap.size)
    case atStart => exact ⟨nx, g.flight, rfl, HT0, fun p hp => hp, hit, (Only.refl _ _).alloc _⟩
    case round =>
      obtain ⟨s, left, rfl, hs, hin, hi, ho⟩ := hrel
      go_wp2_with (at_next; refine wpList_next_fl rfl rfl rfl hi ?_ ?_)
      · intro h0
        have hf : Hid (T = s) := by have := hs.out; rw [h0] at this; exact this
        clear h0 hs
        go_wp2
        go_ret
        exact ⟨by rw [hf.out]; rfl, ho⟩
      · intro l1 qn ql l2 w' hsp hi' ho' hen
        have hq : (qn, ql) ∈ g.flight := hin _ (by rw [hsp]; simp)
        obtain ⟨Aq, cq, hpq, hcq⟩ := hrow _ hq
        have hs2 : Hid (T = leastAll (l1 ++ l2) (GS.least ql s)) := by unfold Hid; rw [hs.out, hsp, leastAll_split]
        have hmu := hi'.left_eq
        have hmu0 := hi.left_eq
        have HL : Hid (w'.rangeLeft fb w.heap.size < wr.rangeLeft fb w.heap.size) := by rw [Hid, hmu, hmu0, hsp]; simp [fvl]
        have hR : Hid (Only [] w w') := ho.step ho' (fun i hi => by simp at hi; subst hi; exact .inr (Nat.le_refl _))
        have hin' : ∀ p ∈ l1 ++ l2, p ∈ g.flight := fun p hp => hin p (by rw [hsp]; rcases List.mem_append.1 hp with q | q <;> simp [q])
        simp only at hpq hen hcq ⊢
        rw [hpq] at hen ⊢
        cases ql with
        | nil =>
          clear hmu hmu0 hs hsp hi ho ho' hin hpq hcq
          go_wp2
          go_roundw
          case rel => exact ⟨s, l1 ++ l2, by go_num, hs2, hin', hi', hR.out⟩
          case measure => exact HL.out
        | cons x xs =>
          obtain ⟨b, off, rfl, hbb, hc0⟩ := hcq (by simp)
          have c0 : w'.cell? ⟨b, off, none⟩ = some (.int .i64 x) := (hR.out.cell hbb (by simp)).trans (by simpa using hc0)
          have hl0 : (0 : Int) < ((x :: xs).length : Int) := by simp
          have hs3 : Hid (T = leastAll (l1 ++ l2) (min s x)) := hs2
          clear hmu hmu0 hs hsp hi ho ho' hin hpq hcq hs2
          obtain ⟨L, hL⟩ : ∃ L, L = (x :: xs).length := ⟨_, rfl⟩
          rw [← hL] at hen hl0 ⊢
          have hLp : 0 < L := by omega
          clear hL hc0
          by_cases hxs : x < s
          · rw [show min s x = x by omega] at hs3
            go_wp2
            go_roundw
            case rel => exact ⟨x, l1 ++ l2, by go_num, hs3, hin', hi', hR.out⟩
            case measure => exact HL.out
          · rw [show min s x = s by omega] at hs3
            go_wp2
            go_roundw
            case rel => exact ⟨s, l1 ++ l2, by go_num, hs3, hin', hi', hR.out⟩
            case measure => exact HL.out
  | cons x0 xs0 =>
    rw [hw] at c4 HT
    obtain ⟨b0, off0, rfl, hbb0, hc0⟩ := hel 0 (by rw [hw]; simp)
    have d0 : w.cell? ⟨b0, off0, none⟩ = some (.int .i64 x0) := by
      rw [Nat.add_zero] at hc0
      rw [hc0]
      simp [hw]
    have HT' : Hid (T = leastAll g.flight (min nx x0)) := HT
    have hl0 : (0 : Int) < ((x0 :: xs0).length : Int) := by simp
    obtain ⟨L0, hL0⟩ : ∃ L, L = (x0 :: xs0).length := ⟨_, rfl⟩
    rw [← hL0] at c4 hl0
    have hLp0 : 0 < L0 := by omega
    clear hel hw HT hc0 hL0
    have HT := HT'
    have HT0 : Hid (T = leastAll g.flight (min nx x0)) := HT
    go_enter Tryz.func18, Tryz.ntmps18
    go_wp2_with (first
      | (go_at_call 22; refine HN.out.mono ?_; rintro e w1 ⟨rfl, rfl⟩)
      | (at_range; refine wpList_range_is rfl 57 rfl Tryz.underlying57 rfl hmap ?_; intro o' hit))
    go_frame
    go_loopw [3] (fun n wr => ∃ (s : Int) (left : List (ByteArray × List Int)), n = .int .i64 s ∧ Hid (T = leastAll left s) ∧ (∀ p ∈ left, p ∈ g.flight) ∧ IterIs Value.string wr w.heap.size fb (fvl pf g.flight) (fvl pf left) ∧ Only [] w wr) (fun _ wr => wr.rangeLeft fb w.heap.size)
    case atStart => exact ⟨min nx x0, g.flight, rfl, HT0, fun p hp => hp, hit, (Only.refl _ _).alloc _⟩
    case round =>
      obtain ⟨s, left, rfl, hs, hin, hi, ho⟩ := hrel
      go_wp2_with (at_next; refine wpList_next_fl rfl rfl rfl hi ?_ ?_)
      · intro h0
        have hf : Hid (T = s) := by have := hs.out; rw [h0] at this; exact this
        clear h0 hs
        go_wp2
        go_ret
        exact ⟨by rw [hf.out]; rfl, ho⟩
      · intro l1 qn ql l2 w' hsp hi' ho' hen
        have hq : (qn, ql) ∈ g.flight := hin _ (by rw [hsp]; simp)
        obtain ⟨Aq, cq, hpq, hcq⟩ := hrow _ hq
        have hs2 : Hid (T = leastAll (l1 ++ l2) (GS.least ql s)) := by unfold Hid; rw [hs.out, hsp, leastAll_split]
        have hmu := hi'.left_eq
        have hmu0 := hi.left_eq
        have HL : Hid (w'.rangeLeft fb w.heap.size < wr.rangeLeft fb w.heap.size) := by rw [Hid, hmu, hmu0, hsp]; simp [fvl]
        have hR : Hid (Only [] w w') := ho.step ho' (fun i hi => by simp at hi; subst hi; exact .inr (Nat.le_refl _))
        have hin' : ∀ p ∈ l1 ++ l2, p ∈ g.flight := fun p hp => hin p (by rw [hsp]; rcases List.mem_append.1 hp with q | q <;> simp [q])
        simp only at hpq hen hcq ⊢
        rw [hpq] at hen ⊢
        cases ql with
        | nil =>
          clear hmu hmu0 hs hsp hi ho ho' hin hpq hcq
          go_wp2
          go_roundw
          case rel => exact ⟨s, l1 ++ l2, by go_num, hs2, hin', hi', hR.out⟩
          case measure => exact HL.out
        | cons x xs =>
          obtain ⟨b, off, rfl, hbb, hc0⟩ := hcq (by simp)
          have c0 : w'.cell? ⟨b, off, none⟩ = some (.int .i64 x) := (hR.out.cell hbb (by simp)).trans (by simpa using hc0)
          have hl0 : (0 : Int) < ((x :: xs).length : Int) := by simp
          have hs3 : Hid (T = leastAll (l1 ++ l2) (min s x)) := hs2
          clear hmu hmu0 hs hsp hi ho ho' hin hpq hcq hs2
          obtain ⟨L, hL⟩ : ∃ L, L = (x :: xs).length := ⟨_, rfl⟩
          rw [← hL] at hen hl0 ⊢
          have hLp : 0 < L := by omega
          clear hL hc0
          by_cases hxs : x < s
          · rw [show min s x = x by omega] at hs3
            go_wp2
            go_roundw
            case rel => exact ⟨x, l1 ++ l2, by go_num, hs3, hin', hi', hR.out⟩
            case measure => exact HL.out
          · rw [show min s x = s by omega] at hs3
            go_wp2
            go_roundw
            case rel => exact ⟨s, l1 ++ l2, by go_num, hs3, hin', hi', hR.out⟩
            case measure => exact HL.out
end
end Go.Proofs.YthjgplgfcbhihaaGreat
/- A group's parts turned one by one: rows, maps, numbers; which blocks turn. -/
set_option linter.unusedVariables false
set_option linter.unusedSimpArgs false
namespace Go.Proofs.YthjgplgfcbhihaaGreat
open Go.RowKit Go Go.Sort
/-- From w to w' only blocks of H turned; those of H' are of H or new. -/
structure Stepped (w w' : World) (H H' : List Nat) : Prop where
  only : ∃ S, Only S w w' ∧ ∀ b ∈ S, b ∈ H
  blk : ∀ b ∈ H', b ∈ H ∨ w.heap.size ≤ b
section
variable {a w w' w'' : World} {H H' H'' : List Nat}
theorem Stepped.refl (w : World) (H : List Nat) : Stepped w w H H := ⟨⟨[], Only.refl _ _, by simp⟩, fun b hb => .inl hb⟩
theorem Stepped.size (h : Stepped w w' H H') : w.heap.size ≤ w'.heap.size := by
  obtain ⟨⟨S, h1, _⟩, _⟩ := h
  exact h1.size
theorem Stepped.trans (h : Stepped w w' H H') (k : Stepped w' w'' H' H'') : Stepped w w'' H H'' := by
  have hz := h.size
  obtain ⟨⟨S, h1, h2⟩, h3⟩ := h
  obtain ⟨⟨T, k1, k2⟩, k3⟩ := k
  refine ⟨⟨S ++ T.filter (fun b => decide (b < w.heap.size)), ?_, fun b hb => ?_⟩, fun b hb => ?_⟩
  · refine (h1.mono (fun b hb => List.mem_append_left _ hb)).step k1 (fun b hb => ?_)
    by_cases q : b < w.heap.size
    · exact .inl (List.mem_append_right _ (List.mem_filter.2 ⟨hb, by simpa using q⟩))
    · exact .inr (by omega)
  · rcases List.mem_append.1 hb with q | q
    · exact h2 b q
    · obtain ⟨q1, q2⟩ := List.mem_filter.1 q
      rcases h3 b (k2 b q1) with q3 | q3
      · exact q3
      · have : b < w.heap.size := by simpa using q2
        omega
  · rcases k3 b hb with q | q
    · exact h3 b q
    · exact .inr (by omega)
theorem Stepped.then0 (h : Stepped w w' H H') (k : Only [] w' w'') : Stepped w w'' H H' := h.trans ⟨⟨[], k, by simp⟩, fun b hb => .inl hb⟩
theorem Stepped.first0 (k : Only [] w w') (h : Stepped w' w'' H H') : Stepped w w'' H H' := Stepped.trans ⟨⟨[], k, by simp⟩, fun b hb => .inl hb⟩ h
theorem Stepped.of {S : List Nat} (k : Only S w w') (hS : ∀ b ∈ S, b ∈ H) (hb : ∀ b ∈ H', b ∈ H ∨ w.heap.size ≤ b) : Stepped w w' H H' := ⟨⟨S, k, hS⟩, hb⟩
/-- Above the world a. -/
theorem Stepped.above (h : Stepped w w' H H') (ha : Only [] a w) (hH : ∀ b ∈ H, a.heap.size ≤ b) : Only [] a w' ∧ ∀ b ∈ H', a.heap.size ≤ b := by
  obtain ⟨⟨S, h1, h2⟩, h3⟩ := h
  refine ⟨ha.step h1 (fun b hb => .inr (hH b (h2 b hb))), fun b hb => ?_⟩
  rcases h3 b hb with q | q
  · exact hH b q
  · exact Nat.le_trans ha.size q
end
section
variable {w w1 w2 : World} {gb fb tb : Nat} {vw vp va vs v' : Value} {pf : ByteArray → Value} {g : GS} {l' : List Int}
theorem mem_hG {gb fb tb b : Nat} {L : List (Value × List Int)} : b ∈ hG gb fb tb L ↔ b = gb ∨ b = fb ∨ b = tb ∨ b ∈ blocksOf L := by simp [hG]
theorem swap2 {α : Type} (a b : α) (l : List α) : (a :: b :: l).Perm (b :: a :: l) := List.Perm.swap b a l
theorem rot3 {α : Type} (a b c : α) (l : List α) : (a :: b :: c :: l).Perm (c :: a :: b :: l) := (List.Perm.cons a (swap2 b c l)).trans (swap2 a c (b :: l))
theorem rot4 {α : Type} (a b c d : α) (l : List α) : (a :: b :: c :: d :: l).Perm (d :: a :: b :: c :: l) := (List.Perm.cons a (rot3 b c d l)).trans (swap2 a d (b :: c :: l))
theorem GAt.setW (h : GAt w gb fb tb vw vp va vs pf g) (k : RowTo w vw w1 v' l') :
    GAt (w1.setCell ⟨gb, 4, none⟩ v') gb fb tb v' vp va vs pf { g with waiting := l' } ∧ Stepped w (w1.setCell ⟨gb, 4, none⟩ v') (hG gb fb tb (rowsOf vw vp va vs pf g)) (hG gb fb tb (rowsOf v' vp va vs pf { g with waiting := l' })) := by
  have hv : ∀ b, vw.ownBlock = some b → b ∈ blocksOf (rowsOf vw vp va vs pf g) := fun b hb => mem_blocksOf.2 ⟨(vw, g.waiting), by simp [rowsOf], hb⟩
  have hgb : gb ∉ vw.ownBlock.toList := fun q => (h.rowne gb (hv gb (by simpa using q))).1 rfl
  have hfb : fb ∉ vw.ownBlock.toList := fun q => (h.rowne fb (hv fb (by simpa using q))).2.1 rfl
  have htb : tb ∉ vw.ownBlock.toList := fun q => (h.rowne tb (hv tb (by simpa using q))).2.2 rfl
  have hset : Only [gb] w1 (w1.setCell ⟨gb, 4, none⟩ v') := (Only.refl _ w1).setCell (.inl (by simp)) _
  have hnf := h.nef
  have hnt := h.net
  have hr1 : Rows w1 (rowsOf v' vp va vs pf { g with waiting := l' }) := by
    have := (h.rows.perm (List.Perm.refl _)).turn k
    exact this.perm (List.Perm.refl _)
  refine ⟨⟨?_, ?_, ?_, ?_, h.ne⟩, ?_⟩
  · exact (k.only.blk h.blk hgb).set 4 v'
  · exact (h.flight.only k.only hfb).only hset (by simp; exact fun q => hnf q)
  · exact (h.tries.only k.only htb).only hset (by simp; exact fun q => hnt q)
  · refine hr1.only hset (fun b hb q => ?_)
    have e : b = gb := by simpa using q
    subst e
    obtain ⟨p, hp, hq⟩ := mem_blocksOf.1 hb
    obtain ⟨cur, hcur⟩ := own_type (hr1.own p hp) hq
    exact hcur.other (k.only.blk h.blk hgb) (by decide) rfl
  · refine Stepped.of (S := gb :: vw.ownBlock.toList) ((k.only.mono (fun b hb => List.mem_cons_of_mem _ hb)).setCell (.inl (by simp)) _) (fun b hb => ?_) (fun b hb => ?_)
    · rcases List.mem_cons.1 hb with rfl | hb
      · exact mem_hG.2 (.inl rfl)
      · exact mem_hG.2 (.inr (.inr (.inr (hv b (by simpa using hb)))))
    · rcases mem_hG.1 hb with q | q | q | q
      · exact .inl (mem_hG.2 (.inl q))
      · exact .inl (mem_hG.2 (.inr (.inl q)))
      · exact .inl (mem_hG.2 (.inr (.inr (.inl q))))
      · obtain ⟨p, hp, hq⟩ := mem_blocksOf.1 q
        have hp' : p = (v', l') ∨ p ∈ rowsOf vw vp va vs pf g := by
          simp only [rowsOf, List.mem_cons] at hp ⊢
          rcases hp with hp | hp | hp | hp | hp
          · simp [hp]
          · simp [hp]
          · simp [hp]
          · simp [hp]
          · exact .inr (.inr (.inr (.inr (.inr hp))))
        rcases hp' with rfl | hp'
        · rcases k.blk b hq with q2 | q2
          · exact .inl (mem_hG.2 (.inr (.inr (.inr (hv b q2)))))
          · exact .inr q2
        · exact .inl (mem_hG.2 (.inr (.inr (.inr (mem_blocksOf.2 ⟨p, hp', hq⟩)))))
theorem GAt.setP (h : GAt w gb fb tb vw vp va vs pf g) (k : RowTo w vp w1 v' l') :
    GAt (w1.setCell ⟨gb, 6, none⟩ v') gb fb tb vw v' va vs pf { g with parked := l' } ∧ Stepped w (w1.setCell ⟨gb, 6, none⟩ v') (hG gb fb tb (rowsOf vw vp va vs pf g)) (hG gb fb tb (rowsOf vw v' va vs pf { g with parked := l' })) := by
  have hv : ∀ b, vp.ownBlock = some b → b ∈ blocksOf (rowsOf vw vp va vs pf g) := fun b hb => mem_blocksOf.2 ⟨(vp, g.parked), by simp [rowsOf], hb⟩
  have hgb : gb ∉ vp.ownBlock.toList := fun q => (h.rowne gb (hv gb (by simpa using q))).1 rfl
  have hfb : fb ∉ vp.ownBlock.toList := fun q => (h.rowne fb (hv fb (by simpa using q))).2.1 rfl
  have htb : tb ∉ vp.ownBlock.toList := fun q => (h.rowne tb (hv tb (by simpa using q))).2.2 rfl
  have hset : Only [gb] w1 (w1.setCell ⟨gb, 6, none⟩ v') := (Only.refl _ w1).setCell (.inl (by simp)) _
  have hnf := h.nef
  have hnt := h.net
  have hr1 : Rows w1 (rowsOf vw v' va vs pf { g with parked := l' }) := by
    have := (h.rows.perm (swap2 _ _ _)).turn k
    exact this.perm (swap2 _ _ _)
  refine ⟨⟨?_, ?_, ?_, ?_, h.ne⟩, ?_⟩
  · exact (k.only.blk h.blk hgb).set 6 v'
  · exact (h.flight.only k.only hfb).only hset (by simp; exact fun q => hnf q)
  · exact (h.tries.only k.only htb).only hset (by simp; exact fun q => hnt q)
  · refine hr1.only hset (fun b hb q => ?_)
    have e : b = gb := by simpa using q
    subst e
    obtain ⟨p, hp, hq⟩ := mem_blocksOf.1 hb
    obtain ⟨cur, hcur⟩ := own_type (hr1.own p hp) hq
    exact hcur.other (k.only.blk h.blk hgb) (by decide) rfl
  · refine Stepped.of (S := gb :: vp.ownBlock.toList) ((k.only.mono (fun b hb => List.mem_cons_of_mem _ hb)).setCell (.inl (by simp)) _) (fun b hb => ?_) (fun b hb => ?_)
    · rcases List.mem_cons.1 hb with rfl | hb
      · exact mem_hG.2 (.inl rfl)
      · exact mem_hG.2 (.inr (.inr (.inr (hv b (by simpa using hb)))))
    · rcases mem_hG.1 hb with q | q | q | q
      · exact .inl (mem_hG.2 (.inl q))
      · exact .inl (mem_hG.2 (.inr (.inl q)))
      · exact .inl (mem_hG.2 (.inr (.inr (.inl q))))
      · obtain ⟨p, hp, hq⟩ := mem_blocksOf.1 q
        have hp' : p = (v', l') ∨ p ∈ rowsOf vw vp va vs pf g := by
          simp only [rowsOf, List.mem_cons] at hp ⊢
          rcases hp with hp | hp | hp | hp | hp
          · simp [hp]
          · simp [hp]
          · simp [hp]
          · simp [hp]
          · exact .inr (.inr (.inr (.inr (.inr hp))))
        rcases hp' with rfl | hp'
        · rcases k.blk b hq with q2 | q2
          · exact .inl (mem_hG.2 (.inr (.inr (.inr (hv b q2)))))
          · exact .inr q2
        · exact .inl (mem_hG.2 (.inr (.inr (.inr (mem_blocksOf.2 ⟨p, hp', hq⟩)))))
theorem GAt.setA (h : GAt w gb fb tb vw vp va vs pf g) (k : RowTo w va w1 v' l') :
    GAt (w1.setCell ⟨gb, 7, none⟩ v') gb fb tb vw vp v' vs pf { g with acked := l' } ∧ Stepped w (w1.setCell ⟨gb, 7, none⟩ v') (hG gb fb tb (rowsOf vw vp va vs pf g)) (hG gb fb tb (rowsOf vw vp v' vs pf { g with acked := l' })) := by
  have hv : ∀ b, va.ownBlock = some b → b ∈ blocksOf (rowsOf vw vp va vs pf g) := fun b hb => mem_blocksOf.2 ⟨(va, g.acked), by simp [rowsOf], hb⟩
  have hgb : gb ∉ va.ownBlock.toList := fun q => (h.rowne gb (hv gb (by simpa using q))).1 rfl
  have hfb : fb ∉ va.ownBlock.toList := fun q => (h.rowne fb (hv fb (by simpa using q))).2.1 rfl
  have htb : tb ∉ va.ownBlock.toList := fun q => (h.rowne tb (hv tb (by simpa using q))).2.2 rfl
  have hset : Only [gb] w1 (w1.setCell ⟨gb, 7, none⟩ v') := (Only.refl _ w1).setCell (.inl (by simp)) _
  have hnf := h.nef
  have hnt := h.net
  have hr1 : Rows w1 (rowsOf vw vp v' vs pf { g with acked := l' }) := by
    have := (h.rows.perm (rot3 _ _ _ _)).turn k
    exact this.perm (rot3 _ _ _ _).symm
  refine ⟨⟨?_, ?_, ?_, ?_, h.ne⟩, ?_⟩
  · exact (k.only.blk h.blk hgb).set 7 v'
  · exact (h.flight.only k.only hfb).only hset (by simp; exact fun q => hnf q)
  · exact (h.tries.only k.only htb).only hset (by simp; exact fun q => hnt q)
  · refine hr1.only hset (fun b hb q => ?_)
    have e : b = gb := by simpa using q
    subst e
    obtain ⟨p, hp, hq⟩ := mem_blocksOf.1 hb
    obtain ⟨cur, hcur⟩ := own_type (hr1.own p hp) hq
    exact hcur.other (k.only.blk h.blk hgb) (by decide) rfl
  · refine Stepped.of (S := gb :: va.ownBlock.toList) ((k.only.mono (fun b hb => List.mem_cons_of_mem _ hb)).setCell (.inl (by simp)) _) (fun b hb => ?_) (fun b hb => ?_)
    · rcases List.mem_cons.1 hb with rfl | hb
      · exact mem_hG.2 (.inl rfl)
      · exact mem_hG.2 (.inr (.inr (.inr (hv b (by simpa using hb)))))
    · rcases mem_hG.1 hb with q | q | q | q
      · exact .inl (mem_hG.2 (.inl q))
      · exact .inl (mem_hG.2 (.inr (.inl q)))
      · exact .inl (mem_hG.2 (.inr (.inr (.inl q))))
      · obtain ⟨p, hp, hq⟩ := mem_blocksOf.1 q
        have hp' : p = (v', l') ∨ p ∈ rowsOf vw vp va vs pf g := by
          simp only [rowsOf, List.mem_cons] at hp ⊢
          rcases hp with hp | hp | hp | hp | hp
          · simp [hp]
          · simp [hp]
          · simp [hp]
          · simp [hp]
          · exact .inr (.inr (.inr (.inr (.inr hp))))
        rcases hp' with rfl | hp'
        · rcases k.blk b hq with q2 | q2
          · exact .inl (mem_hG.2 (.inr (.inr (.inr (hv b q2)))))
          · exact .inr q2
        · exact .inl (mem_hG.2 (.inr (.inr (.inr (mem_blocksOf.2 ⟨p, hp', hq⟩)))))
theorem GAt.setS (h : GAt w gb fb tb vw vp va vs pf g) (k : RowTo w vs w1 v' l') :
    GAt (w1.setCell ⟨gb, 8, none⟩ v') gb fb tb vw vp va v' pf { g with skipped := l' } ∧ Stepped w (w1.setCell ⟨gb, 8, none⟩ v') (hG gb fb tb (rowsOf vw vp va vs pf g)) (hG gb fb tb (rowsOf vw vp va v' pf { g with skipped := l' })) := by
  have hv : ∀ b, vs.ownBlock = some b → b ∈ blocksOf (rowsOf vw vp va vs pf g) := fun b hb => mem_blocksOf.2 ⟨(vs, g.skipped), by simp [rowsOf], hb⟩
  have hgb : gb ∉ vs.ownBlock.toList := fun q => (h.rowne gb (hv gb (by simpa using q))).1 rfl
  have hfb : fb ∉ vs.ownBlock.toList := fun q => (h.rowne fb (hv fb (by simpa using q))).2.1 rfl
  have htb : tb ∉ vs.ownBlock.toList := fun q => (h.rowne tb (hv tb (by simpa using q))).2.2 rfl
  have hset : Only [gb] w1 (w1.setCell ⟨gb, 8, none⟩ v') := (Only.refl _ w1).setCell (.inl (by simp)) _
  have hnf := h.nef
  have hnt := h.net
  have hr1 : Rows w1 (rowsOf vw vp va v' pf { g with skipped := l' }) := by
    have := (h.rows.perm (rot4 _ _ _ _ _)).turn k
    exact this.perm (rot4 _ _ _ _ _).symm
  refine ⟨⟨?_, ?_, ?_, ?_, h.ne⟩, ?_⟩
  · exact (k.only.blk h.blk hgb).set 8 v'
  · exact (h.flight.only k.only hfb).only hset (by simp; exact fun q => hnf q)
  · exact (h.tries.only k.only htb).only hset (by simp; exact fun q => hnt q)
  · refine hr1.only hset (fun b hb q => ?_)
    have e : b = gb := by simpa using q
    subst e
    obtain ⟨p, hp, hq⟩ := mem_blocksOf.1 hb
    obtain ⟨cur, hcur⟩ := own_type (hr1.own p hp) hq
    exact hcur.other (k.only.blk h.blk hgb) (by decide) rfl
  · refine Stepped.of (S := gb :: vs.ownBlock.toList) ((k.only.mono (fun b hb => List.mem_cons_of_mem _ hb)).setCell (.inl (by simp)) _) (fun b hb => ?_) (fun b hb => ?_)
    · rcases List.mem_cons.1 hb with rfl | hb
      · exact mem_hG.2 (.inl rfl)
      · exact mem_hG.2 (.inr (.inr (.inr (hv b (by simpa using hb)))))
    · rcases mem_hG.1 hb with q | q | q | q
      · exact .inl (mem_hG.2 (.inl q))
      · exact .inl (mem_hG.2 (.inr (.inl q)))
      · exact .inl (mem_hG.2 (.inr (.inr (.inl q))))
      · obtain ⟨p, hp, hq⟩ := mem_blocksOf.1 q
        have hp' : p = (v', l') ∨ p ∈ rowsOf vw vp va vs pf g := by
          simp only [rowsOf, List.mem_cons] at hp ⊢
          rcases hp with hp | hp | hp | hp | hp
          · simp [hp]
          · simp [hp]
          · simp [hp]
          · simp [hp]
          · exact .inr (.inr (.inr (.inr (.inr hp))))
        rcases hp' with rfl | hp'
        · rcases k.blk b hq with q2 | q2
          · exact .inl (mem_hG.2 (.inr (.inr (.inr (hv b q2)))))
          · exact .inr q2
        · exact .inl (mem_hG.2 (.inr (.inr (.inr (mem_blocksOf.2 ⟨p, hp', hq⟩)))))
/-- The row of what waits is turned, and comes to the same. -/
theorem GAt.touchW (h : GAt w gb fb tb vw vp va vs pf g) (k : RowTo w vw w1 vw g.waiting) : GAt w1 gb fb tb vw vp va vs pf g ∧ Stepped w w1 (hG gb fb tb (rowsOf vw vp va vs pf g)) (hG gb fb tb (rowsOf vw vp va vs pf g)) := by
  have hv : ∀ b, vw.ownBlock = some b → b ∈ blocksOf (rowsOf vw vp va vs pf g) := fun b hb => mem_blocksOf.2 ⟨(vw, g.waiting), by simp [rowsOf], hb⟩
  have hgb : gb ∉ vw.ownBlock.toList := fun q => (h.rowne gb (hv gb (by simpa using q))).1 rfl
  have hfb : fb ∉ vw.ownBlock.toList := fun q => (h.rowne fb (hv fb (by simpa using q))).2.1 rfl
  have htb : tb ∉ vw.ownBlock.toList := fun q => (h.rowne tb (hv tb (by simpa using q))).2.2 rfl
  exact ⟨⟨k.only.blk h.blk hgb, h.flight.only k.only hfb, h.tries.only k.only htb, h.rows.turn k, h.ne⟩, Stepped.of k.only (fun b hb => mem_hG.2 (.inr (.inr (.inr (hv b (by simpa using hb)))))) (fun b hb => .inl hb)⟩
theorem GAt.setN (h : GAt w gb fb tb vw vp va vs pf g) (n : Int) :
    GAt (w.setCell ⟨gb, 3, none⟩ (.int .i64 n)) gb fb tb vw vp va vs pf { g with next := n } ∧ Stepped w (w.setCell ⟨gb, 3, none⟩ (.int .i64 n)) (hG gb fb tb (rowsOf vw vp va vs pf g)) (hG gb fb tb (rowsOf vw vp va vs pf { g with next := n })) := by
  have hset : Only [gb] w (w.setCell ⟨gb, 3, none⟩ (.int .i64 n)) := (Only.refl _ w).setCell (.inl (by simp)) _
  refine ⟨⟨h.blk.set 3 _, h.flight.only hset (by simp; exact fun q => h.nef q), h.tries.only hset (by simp; exact fun q => h.net q), h.rows.only hset (fun b hb q => (h.rowne b hb).1 (by simpa using q)), h.ne⟩, Stepped.of hset (fun b hb => mem_hG.2 (.inl (by simpa using hb))) (fun b hb => .inl hb)⟩
theorem GAt.setT (h : GAt w gb fb tb vw vp va vs pf g) (k : Only [tb] w w1) {T : List (Int × Int)} (hm : MapIs (Value.int .i64) w1 tb (T.map fun p => (p.1, Value.int .i64 p.2))) :
    GAt w1 gb fb tb vw vp va vs pf { g with tries := T } ∧ Stepped w w1 (hG gb fb tb (rowsOf vw vp va vs pf g)) (hG gb fb tb (rowsOf vw vp va vs pf { g with tries := T })) := by
  refine ⟨⟨k.blk h.blk (by simp; exact fun q => h.net q.symm), h.flight.only k (by simp; exact h.ne), hm, h.rows.only k (fun b hb q => (h.rowne b hb).2.2 (by simpa using q)), h.ne⟩, Stepped.of k (fun b hb => mem_hG.2 (.inr (.inr (.inl (by simpa using hb))))) (fun b hb => .inl hb)⟩
theorem sub_flat {α β : Type} (f : α → List β) {L' L : List α} (h : L'.Sublist L) : (L'.flatMap f).Sublist (L.flatMap f) := by
  induction h with
  | slnil => exact List.Sublist.refl _
  | cons a _ ih => rw [List.flatMap_cons]; exact ih.trans (List.sublist_append_right _ _)
  | cons_cons a _ ih => rw [List.flatMap_cons, List.flatMap_cons]; exact List.Sublist.append (List.Sublist.refl _) ih
theorem Rows.sub {L L' : List (Value × List Int)} (h : Rows w L) (hs : L'.Sublist L) : Rows w L' :=
  ⟨fun p hp => h.own p (hs.subset hp), List.Nodup.sublist (by unfold blocksOf; exact sub_flat _ hs) h.nodup⟩
theorem GAt.delF (h : GAt w gb fb tb vw vp va vs pf g) (k : Only [fb] w w1) {who : ByteArray} (hm : MapIs Value.string w1 fb (adel (g.flight.map fun p => (p.1, pf p.1)) who)) :
    GAt w1 gb fb tb vw vp va vs pf { g with flight := adel g.flight who } ∧ Stepped w w1 (hG gb fb tb (rowsOf vw vp va vs pf g)) (hG gb fb tb (rowsOf vw vp va vs pf { g with flight := adel g.flight who })) := by
  have hsub : (rowsOf vw vp va vs pf { g with flight := adel g.flight who }).Sublist (rowsOf vw vp va vs pf g) := by
    unfold rowsOf
    exact ((((((adel_sublist g.flight who).map _).cons_cons _).cons_cons _).cons_cons _).cons_cons _)
  rw [adel_mapk (fun k _ => pf k)] at hm
  refine ⟨⟨k.blk h.blk (by simp; exact fun q => h.nef q.symm), hm, h.tries.only k (by simp; exact fun q => h.ne q.symm), (h.rows.only k (fun b hb q => (h.rowne b hb).2.1 (by simpa using q))).sub hsub, h.ne⟩, Stepped.of k (fun b hb => mem_hG.2 (.inr (.inl (by simpa using hb)))) (fun b hb => ?_)⟩
  rcases mem_hG.1 hb with q | q | q | q
  · exact .inl (mem_hG.2 (.inl q))
  · exact .inl (mem_hG.2 (.inr (.inl q)))
  · exact .inl (mem_hG.2 (.inr (.inr (.inl q))))
  · obtain ⟨p, hp, hq⟩ := mem_blocksOf.1 q
    exact .inl (mem_hG.2 (.inr (.inr (.inr (mem_blocksOf.2 ⟨p, hsub.subset hp, hq⟩)))))
/-- Somebody's flight is another list: the row turned, then the map. -/
theorem GAt.putF (h : GAt w gb fb tb vw vp va vs pf g) {who : ByteArray} (k : RowTo w (fv pf g who) w1 v' l') (k2 : Only [fb] w1 w2) (hm : MapIs Value.string w2 fb (aput (g.flight.map fun p => (p.1, pf p.1)) who v')) :
    GAt w2 gb fb tb vw vp va vs (fun a => if a = who then v' else pf a) { g with flight := aput g.flight who l' } ∧
      Stepped w w2 (hG gb fb tb (rowsOf vw vp va vs pf g)) (hG gb fb tb (rowsOf vw vp va vs (fun a => if a = who then v' else pf a) { g with flight := aput g.flight who l' })) := by
  have hfl : (aput (g.flight.map fun p => (p.1, pf p.1)) who v') = (aput g.flight who l').map fun p => (p.1, (fun a => if a = who then v' else pf a) p.1) :=
    aput_mapk (fun k _ => pf k) (fun k _ => if k = who then v' else pf k) g.flight h.nod who l' v' (by simp) (fun a ha => by simp [ha])
  rw [hfl] at hm
  have hvb : ∀ b, (fv pf g who).ownBlock = some b → b ∈ blocksOf (rowsOf vw vp va vs pf g) := fun b hb => by
    unfold fv GS.is at hb
    cases hx : aget g.flight who with
    | none => rw [hx] at hb; cases hb
    | some l =>
      rw [hx] at hb
      refine mem_blocksOf.2 ⟨(pf who, l), ?_, hb⟩
      simp only [rowsOf, List.mem_cons]
      exact .inr (.inr (.inr (.inr (List.mem_map.2 ⟨(who, l), aget_mem hx, rfl⟩))))
  have hgb : gb ∉ (fv pf g who).ownBlock.toList := fun q => (h.rowne gb (hvb gb (by simpa using q))).1 rfl
  have htb : tb ∉ (fv pf g who).ownBlock.toList := fun q => (h.rowne tb (hvb tb (by simpa using q))).2.2 rfl
  have hr : Rows w1 (rowsOf vw vp va vs (fun a => if a = who then v' else pf a) { g with flight := aput g.flight who l' }) ∧ ∀ p ∈ rowsOf vw vp va vs (fun a => if a = who then v' else pf a) { g with flight := aput g.flight who l' }, p = (v', l') ∨ p ∈ rowsOf vw vp va vs pf g := by
    cases hx : aget g.flight who with
    | some l =>
      obtain ⟨L, p1, p2⟩ := h.front hx
      have hf : fv pf g who = pf who := by unfold fv GS.is; rw [hx]; rfl
      rw [hf] at k
      refine ⟨((h.rows.perm p1).turn k).perm (p2 l' v'), fun p hp => ?_⟩
      rcases List.mem_cons.1 ((p2 l' v').mem_iff.2 hp) with q | q
      · exact .inl q
      · exact .inr (p1.mem_iff.2 (List.mem_cons_of_mem _ q))
    | none =>
      have hf : fv pf g who = .slice none 0 0 := by unfold fv GS.is; rw [hx]; rfl
      rw [hf] at k
      have hnk : who ∉ g.flight.map (·.1) := aget_none.1 hx
      have happ : ∀ (l : List (ByteArray × List Int)), who ∉ l.map (·.1) → (aput l who l').map (fun p => ((if p.1 = who then v' else pf p.1), p.2)) = l.map (fun p => (pf p.1, p.2)) ++ [(v', l')] := by
        intro l
        induction l with
        | nil => intro _; simp [aput]
        | cons p l ih =>
          intro hn
          obtain ⟨a, b⟩ := p
          simp only [List.map_cons, List.mem_cons, not_or] at hn
          have hne : a ≠ who := fun e => hn.1 e.symm
          simp only [aput, if_neg hne, List.map_cons, List.cons_append]
          rw [ih hn.2]
      have he : rowsOf vw vp va vs (fun a => if a = who then v' else pf a) { g with flight := aput g.flight who l' } = rowsOf vw vp va vs pf g ++ [(v', l')] := by
        unfold rowsOf
        simp only [happ g.flight hnk, List.cons_append]
      rw [he]
      have hadd := h.rows.add (k.only.mono (by simp [Value.ownBlock])) k.own (fun b hb => (k.blk b hb).elim (fun q => by cases q) id)
      refine ⟨hadd.perm ?_, fun p hp => ?_⟩
      · exact (List.perm_append_singleton _ _).symm
      · rcases List.mem_append.1 hp with q | q
        · exact .inr q
        · exact .inl (by simpa using q)
  obtain ⟨hr1, hr2⟩ := hr
  have hB1 := k.only.blk h.blk hgb
  have hnf := h.nef
  have hk12 : Only (fb :: (fv pf g who).ownBlock.toList) w w2 := (k.only.mono (fun b hb => List.mem_cons_of_mem _ hb)).trans (k2.mono (fun b hb => by simp at hb; simp [hb]))
  refine ⟨⟨k2.blk hB1 (by simp; exact fun q => hnf q.symm), hm, (h.tries.only k.only htb).only k2 (by simp; exact fun q => h.ne q.symm), hr1.only k2 (fun b hb q => ?_), h.ne⟩, Stepped.of hk12 (fun b hb => ?_) (fun b hb => ?_)⟩
  · have e : b = fb := by simpa using q
    subst e
    obtain ⟨p, hp, hq⟩ := mem_blocksOf.1 hb
    have hfl1 : b ∉ (fv pf g who).ownBlock.toList := fun q => (h.rowne b (hvb b (by simpa using q))).2.1 rfl
    obtain ⟨cur, hcur⟩ := own_type (hr1.own p hp) hq
    exact (h.flight.only k.only hfl1).ne_blk hcur rfl
  · rcases List.mem_cons.1 hb with rfl | hb
    · exact mem_hG.2 (.inr (.inl rfl))
    · exact mem_hG.2 (.inr (.inr (.inr (hvb b (by simpa using hb)))))
  · rcases mem_hG.1 hb with q | q | q | q
    · exact .inl (mem_hG.2 (.inl q))
    · exact .inl (mem_hG.2 (.inr (.inl q)))
    · exact .inl (mem_hG.2 (.inr (.inr (.inl q))))
    · obtain ⟨p, hp, hq⟩ := mem_blocksOf.1 q
      rcases hr2 p hp with rfl | hp'
      · rcases k.blk b hq with q2 | q2
        · exact .inl (mem_hG.2 (.inr (.inr (.inr (hvb b q2)))))
        · exact .inr q2
      · exact .inl (mem_hG.2 (.inr (.inr (.inr (mem_blocksOf.2 ⟨p, hp', hq⟩)))))
end
end Go.Proofs.YthjgplgfcbhihaaGreat
/- Appends of a slice that can be read to a row of one's own, as runs: in place, or into a new block. -/
set_option linter.unusedVariables false
set_option linter.unusedSimpArgs false
namespace Go.Proofs.YthjgplgfcbhihaaGreat
open Go.RowKit Go
theorem run_append_zero {P : Program} (w : World) (t e ty : TypeId) (A B : Option Addr) (size n cap c : Nat) (ht : P.underlying t = some (.slice e)) (hs : (Go.sizeOf e).run P w = .ok size w) (hnc : n ≤ cap) :
    (Builtin.append_ #[t, t] ty #[.slice A n cap, .slice B 0 c]).run P w = .ok (.slice A n cap) w := by
  cases A <;> cases B <;> simp [Builtin.append_, run_underlying ht, hs, hnc, Builtin.lenOf, Builtin.firstCells, storeCells, loadCells, loadCellsFrom]
theorem run_app {P : Program} {w : World} (t ty : TypeId) (base : Nat) (e : TypeId) (z : Value) (size bytes : Nat) (ht : P.underlying t = some (.slice e)) (hi : (P.info? e).map (fun i => (i.zero, i.size, i.bytes)) = some (some z, size, bytes))
    (hzs : z.cells.size = size) (hsz : 0 < size) {v : Value} {n : Nat} {xs : List Value} (hown : w.ownsRow base e size v n xs) {u : Value} {m : Nat} {cells : List Value} (hsl : Slc w size u m cells)
    (h1 : ∀ u ∈ cells, u.oneCell' = true) (hb : (n + m) * bytes ≤ 140737488355328) (hm : n + m ≤ maxLen) (hbase : base ≤ w.heap.size) :
    ∃ A cap w', (Builtin.append_ #[t, t] ty #[v, u]).run P w = .ok (.slice A (n + m) cap) w' ∧ w'.ownsRow base e size (.slice A (n + m) cap) (n + m) (xs ++ cells) ∧ Only v.ownBlock.toList w w' ∧
      ∀ g, (Value.slice A (n + m) cap).ownBlock = some g → v.ownBlock = some g ∨ w.heap.size ≤ g := by
  obtain ⟨i, hi1, hi2, hi3, hi4⟩ := info_parts hi
  obtain ⟨B, c, rfl, hl, hc1, hc2, hc⟩ := hsl
  by_cases h0 : m = 0
  · subst h0
    have hcn : cells = [] := List.eq_nil_of_length_eq_zero (by rw [hl]; simp)
    subst hcn
    obtain ⟨A, cap, rfl, hnc, _⟩ := own_form hown
    have hs : (Go.sizeOf e).run P w = .ok size w := by simp [Go.sizeOf, typeInfo, hi1, hi3]
    exact ⟨A, cap, w, run_append_zero w t e ty A B size n cap c ht hs hnc, by simpa using hown, Only.refl _ _, fun g hg => .inl hg⟩
  · obtain ⟨b, off, rfl, hb1, hcc⟩ := hc (by omega)
    obtain ⟨g, cap, w', hr, h2, h3, h4, _⟩ := run_append_lies (P := P) w t ty base e i z size bytes ht hi1 hi2 hi3 hi4 hzs hsz v n xs hown ⟨b, off, none⟩ m c cells hl (fun j x hx => by
      have hj : j < cells.length := (List.getElem?_eq_some_iff.1 hx).1
      rw [show ((⟨b, off, none⟩ : Addr).add j) = ⟨b, off + j, none⟩ by simp [Addr.add], hcc j hj, hx]) h1 (by omega) hm hb hbase w.heap.size rfl
    refine ⟨_, cap, w', hr, h2, (Only.refl _ _).grown h3 (fun k hk => .inl (by simp [hk])), fun x hx => ?_⟩
    have hx' : g = x := by simpa [Value.ownBlock] using hx
    subst hx'
    rcases h4 with h4 | h4
    · exact .inl h4
    · exact .inr (by omega)
end Go.Proofs.YthjgplgfcbhihaaGreat
/- Opening a law's arguments: slices of strings, of integers and of structs as plain lists. -/
set_option linter.unusedVariables false
set_option linter.unusedSimpArgs false
namespace Go.Proofs.YthjgplgfcbhihaaGreat
open Go.ChangeShapes Go.WideShapes Go.ChangeAt Go.RowKit Go.WideElems Go.ChangeMaps Go.Deep
theorem own : ownKnob Tryz.prog.godebug = none := by kernel_rfl
theorem laidOut : laidOutB Tryz.prog = true := by kernel_rfl
theorem addr_add (b off j : Nat) : (⟨b, off, none⟩ : Addr).add j = ⟨b, off + j, none⟩ := by
  cases j <;> simp [Addr.add]
section
variable {H : Type} {enc : TypeId × Value → H} {P : Program} {W : World} {base : Nat} {t e : TypeId} {v : Value} {d : DataW H} {ps : List MemPlace}
theorem open_strs (ht : P.underlying t = some (.slice e)) (he : P.underlying e = some .string) (hc : P.cellsOf e = 1)
    (hval : Value.okWide P W .any base t v) (hd : DataW.Trod enc P W 0 (fun _ => true) true t v d ps) (hlt : ∀ x ∈ ps, x.block < W.heap.size) :
    ∃ ss : List ByteArray, Slc W 1 v ss.length (strs ss) ∧ (∀ s ∈ ss, s.size ≤ maxLen) ∧ ∀ g, v.ownBlock = some g → g < W.heap.size ∨ ss = [] := by
  obtain ⟨fuel, hf⟩ := hd
  obtain ⟨a0, len, cap, rfl⟩ := okWide_slice ht hval
  rcases open_strings ht he hc hf with ⟨hcs, hx⟩ | ⟨a, len', cap', ss, hcs, _, hl, hm, hz, hx, hcell, hwz⟩
  · simp [Value.cells] at hcs
    obtain ⟨rfl, rfl, rfl⟩ := hcs
    exact ⟨[], Slc.nil W 1, by simp, fun g hg => .inr rfl⟩
  · simp [Value.cells] at hcs
    obtain ⟨rfl, rfl, rfl⟩ := hcs
    simp only [if_true] at hz
    obtain ⟨b, off, spot⟩ := a
    have htl : (ss.take len).length = len := by simp; omega
    have hb : 0 < len → b < W.heap.size ∧ spot = none := by
      intro h0
      have := hcell 0 (by omega)
      exact ⟨block_lt_of_cell this, by simpa [Addr.add] using World.cell?_spot this⟩
    refine ⟨ss.take len, ?_, fun s hs => hwz s (List.mem_of_mem_take hs), fun g hg => ?_⟩
    · rw [htl]
      refine ⟨_, _, rfl, by simp [strs]; omega, hl, hm, fun h0 => ?_⟩
      obtain ⟨q1, rfl⟩ := hb h0
      refine ⟨b, off, rfl, q1, fun j hj => ?_⟩
      have hj' : j < len := by simp [strs] at hj; omega
      have := hcell j (by omega)
      rw [addr_add] at this
      rw [this]
      simp [strs, hj', List.getD]
      rw [List.getElem?_eq_getElem (by omega)]
      rfl
    · by_cases h0 : 0 < len
      · have e : g = b := by
          have : some b = some g := hg
          simpa using this.symm
        rw [e]; exact .inl (hb h0).1
      · right
        have : len = 0 := by omega
        rw [this]; simp
theorem open_intz (ht : P.underlying t = some (.slice e)) (he : P.underlying e = some (.int .i64)) (hc : P.cellsOf e = 1)
    (hval : Value.okWide P W .any base t v) (hd : DataW.Trod enc P W 0 (fun _ => true) true t v d ps) (hlt : ∀ x ∈ ps, x.block < W.heap.size) :
    ∃ zs : List Int, Slc W 1 v zs.length (ints zs) ∧ (∀ z ∈ zs, (Lit.int .i64 z).wf = true) ∧ ∀ g, v.ownBlock = some g → g < W.heap.size ∨ zs = [] := by
  obtain ⟨fuel, hf⟩ := hd
  obtain ⟨a0, len, cap, rfl⟩ := okWide_slice ht hval
  rcases open_ints ht he hc hf with ⟨hcs, hx⟩ | ⟨a, len', cap', ss, hcs, _, hl, hm, hz, hx, hcell, hwz⟩
  · simp [Value.cells] at hcs
    obtain ⟨rfl, rfl, rfl⟩ := hcs
    exact ⟨[], Slc.nil W 1, by simp, fun g hg => .inr rfl⟩
  · simp [Value.cells] at hcs
    obtain ⟨rfl, rfl, rfl⟩ := hcs
    simp only [if_true] at hz
    obtain ⟨b, off, spot⟩ := a
    have htl : (ss.take len).length = len := by simp; omega
    have hb : 0 < len → b < W.heap.size ∧ spot = none := by
      intro h0
      have := hcell 0 (by omega)
      exact ⟨block_lt_of_cell this, by simpa [Addr.add] using World.cell?_spot this⟩
    refine ⟨ss.take len, ?_, fun s hs => hwz s (List.mem_of_mem_take hs), fun g hg => ?_⟩
    · rw [htl]
      refine ⟨_, _, rfl, by simp [ints]; omega, hl, hm, fun h0 => ?_⟩
      obtain ⟨q1, rfl⟩ := hb h0
      refine ⟨b, off, rfl, q1, fun j hj => ?_⟩
      have hj' : j < len := by simp [ints] at hj; omega
      have := hcell j (by omega)
      rw [addr_add] at this
      rw [this]
      simp [ints, hj', List.getD]
      rw [List.getElem?_eq_getElem (by omega)]
      rfl
    · by_cases h0 : 0 < len
      · have e : g = b := by
          have : some b = some g := hg
          simpa using this.symm
        rw [e]; exact .inl (hb h0).1
      · right
        have : len = 0 := by omega
        rw [this]; simp
end
section
variable {H : Type} {enc : TypeId × Value → H} {P : Program} {W : World} {t e : TypeId}
theorem list_of {E : Type} (Q : Nat → E → Prop) : ∀ len, (∀ i, i < len → ∃ o, Q i o) → ∃ os : List E, os.length = len ∧ ∀ i (h : i < os.length), Q i os[i]
  | 0, _ => ⟨[], rfl, fun i h => absurd h (Nat.not_lt_zero _)⟩
  | len + 1, h => by
    obtain ⟨os, h1, h2⟩ := list_of Q len (fun i hi => h i (by omega))
    obtain ⟨o, ho⟩ := h len (by omega)
    refine ⟨os ++ [o], by simp [h1], fun i hi => ?_⟩
    by_cases hl : i < os.length
    · rw [List.getElem_append_left hl]; exact h2 i hl
    · have : i = len := by simp at hi; omega
      subst this
      rw [List.getElem_append_right (by omega)]
      simpa [h1] using ho
/-- The slice whose cells read so, as a list of its elements. -/
theorem open_rows_at {fuel k : Nat} {cs : List Value} {x : DataW H × List MemPlace} (ht : P.underlying t = some (.slice e)) (hc : P.cellsOf e = k) (hk : 0 < k) {E : Type} (cells : E → List Value) (okE : E → Prop)
    (hel : ∀ n cs x, DataW.trod enc P W 0 (fun _ => true) true n e cs = some x → (∀ y ∈ x.2, y.block < W.heap.size) → ∃ o, cs = cells o ∧ okE o)
    (hd : DataW.trod enc P W 0 (fun _ => true) true fuel t cs = some x) (hlt : ∀ y ∈ x.2, y.block < W.heap.size) :
    ∃ (v : Value) (os : List E), cs = [v] ∧ Slc W k v os.length (os.flatMap cells) ∧ (∀ o ∈ os, okE o ∧ (cells o).length = k) ∧ ∀ g, v.ownBlock = some g → g < W.heap.size ∨ os = [] := by
  rcases open_slice ht hd with ⟨hcs, hx⟩ | ⟨a, len, cap, m, n, D, Pl, hcs, _, hl, hm, hmm, hx, hel0⟩
  · exact ⟨_, [], hcs, Slc.nil W k, by simp, fun g hg => .inr rfl⟩
  · simp only [if_true] at hmm
    subst hmm
    have hpl : ∀ i, i < m → ∀ y ∈ Pl i, y.block < W.heap.size := fun i hi y hy => hlt y (by
      rw [hx]
      exact List.mem_append_right _ (List.mem_flatMap.2 ⟨i, List.mem_range.2 hi, hy⟩))
    obtain ⟨os, h1, h2⟩ := list_of (E := E) (fun i o => W.cells? 0 (a.add (i * P.cellsOf e)) (P.cellsOf e) = some (cells o) ∧ okE o) len (fun i hi => by
      obtain ⟨cs', hc', ht'⟩ := hel0 i (by omega)
      obtain ⟨o, rfl, ho⟩ := hel n cs' _ ht' (hpl i (by omega))
      exact ⟨o, hc', ho⟩)
    have hlen : ∀ o ∈ os, (cells o).length = k := by
      intro o ho
      obtain ⟨i, hi, rfl⟩ := List.getElem_of_mem ho
      have := (World.cells?_some (h2 i hi).1).2.1
      rw [this, hc]
    obtain ⟨b, off, spot⟩ := a
    have hcell : ∀ i (hi : i < os.length) r, r < k → W.cell? (((⟨b, off, spot⟩ : Addr).add (i * k)).add r) = (cells os[i])[r]? := by
      intro i hi r hr
      have := (World.cells?_some (h2 i hi).1).2.2 r (by rw [hc]; exact hr)
      rwa [hc] at this
    have hb : 0 < len → b < W.heap.size ∧ spot = none := by
      intro h0
      have h00 := hcell 0 (by omega) 0 hk
      have hs : (cells os[0])[0]? = some ((cells os[0])[0]'(by rw [hlen _ (List.getElem_mem _)]; exact hk)) := List.getElem?_eq_getElem _
      rw [hs] at h00
      generalize (cells os[0])[0]'(by rw [hlen _ (List.getElem_mem _)]; exact hk) = u at h00
      have h01 : W.cell? ⟨b, off, spot⟩ = some u := by simpa [Addr.add] using h00
      exact ⟨block_lt_of_cell h01, by simpa using World.cell?_spot h01⟩
    refine ⟨_, os, hcs, ?_, fun o ho => ⟨?_, hlen o ho⟩, fun g hg => ?_⟩
    · refine ⟨_, _, by rw [h1], by rw [flat_len cells k os hlen], by omega, hm, fun h0 => ?_⟩
      obtain ⟨q1, rfl⟩ := hb (by omega)
      refine ⟨b, off, rfl, q1, fun j hj => ?_⟩
      rw [flat_len cells k os hlen] at hj
      have hi : j / k < os.length := Nat.div_lt_of_lt_mul (by rw [Nat.mul_comm]; exact hj)
      have hr : j % k < k := Nat.mod_lt _ hk
      have hjk : j / k * k + j % k = j := by rw [Nat.mul_comm]; exact Nat.div_add_mod j k
      have := hcell (j / k) hi (j % k) hr
      rw [addr_add, addr_add] at this
      have e2 := flat_get cells k os hlen (j / k) (j % k) hi hr
      rw [hjk] at e2
      rw [e2, ← this]
      congr 2
      omega
    · obtain ⟨i, hi, rfl⟩ := List.getElem_of_mem ho
      exact (h2 i hi).2
    · by_cases h0 : 0 < len
      · have e : g = b := by
          have : some b = some g := hg
          simpa using this.symm
        rw [e]; exact .inl (hb h0).1
      · right
        exact List.eq_nil_of_length_eq_zero (by omega)
theorem open_rows {k : Nat} {base : Nat} {v : Value} {d : DataW H} {ps : List MemPlace} (ht : P.underlying t = some (.slice e)) (hc : P.cellsOf e = k) (hk : 0 < k) {E : Type} (cells : E → List Value) (okE : E → Prop)
    (hel : ∀ n cs x, DataW.trod enc P W 0 (fun _ => true) true n e cs = some x → (∀ y ∈ x.2, y.block < W.heap.size) → ∃ o, cs = cells o ∧ okE o)
    (hval : Value.okWide P W .any base t v) (hd : DataW.Trod enc P W 0 (fun _ => true) true t v d ps) (hlt : ∀ x ∈ ps, x.block < W.heap.size) :
    ∃ os : List E, Slc W k v os.length (os.flatMap cells) ∧ (∀ o ∈ os, okE o ∧ (cells o).length = k) ∧ ∀ g, v.ownBlock = some g → g < W.heap.size ∨ os = [] := by
  obtain ⟨fuel, hf⟩ := hd
  obtain ⟨a0, len, cap, rfl⟩ := okWide_slice ht hval
  obtain ⟨v', os, h1, h2, h3, h4⟩ := open_rows_at ht hc hk cells okE hel hf hlt
  have : v' = .slice a0 len cap := by
    simp [Value.cells] at h1
    exact h1.symm
  subst this
  exact ⟨os, h2, h3, h4⟩
end
end Go.Proofs.YthjgplgfcbhihaaGreat
/- A map whose known keys are given other values while it is ranged over. No program is named. -/
set_option linter.unusedVariables false
set_option linter.unusedSimpArgs false
namespace Go.Proofs.YthjgplgfcbhihaaGreat
open Go.RowKit Go.MapKept Go.ChangeMaps
section
variable {κ : Type} [DecidableEq κ] {enc : κ → Value} {w w' : World} {r b : Nat} {kv left : List (κ × Value)} {P : Program} {t k e : TypeId} {d : TypeDesc}
theorem split_at {α : Type} : ∀ (l : List α) (j : Nat) (x : α), l[j]? = some x → ∃ l1 l2, l = l1 ++ x :: l2 ∧ l1.length = j
  | [], _, _, h => by cases h
  | a :: l, 0, x, h => by
    simp at h
    subst h
    exact ⟨[], l, rfl, rfl⟩
  | a :: l, j + 1, x, h => by
    obtain ⟨l1, l2, e1, e2⟩ := split_at l j x (by simpa using h)
    exact ⟨a :: l1, l2, by rw [e1]; rfl, by simp [e2]⟩
theorem modify_split {α : Type} (f : α → α) : ∀ (l1 l2 : List α) (x : α), (l1 ++ x :: l2).modify l1.length f = l1 ++ f x :: l2
  | [], l2, x => rfl
  | a :: l1, l2, x => by
    simp only [List.cons_append, List.length_cons]
    rw [List.modify_succ_cons, modify_split f l1 l2 x]
theorem IterIs.update (K : KeyEnc d enc) (ht : P.underlying t = some (.map k e)) (hk : P.underlying k = some d) (h : IterIs enc w r b kv left) (q : κ) (v : Value) (hq : (aget kv q).isSome = true) (hn : q ∉ left.map (·.1)) :
    ∃ o, (Instr.mapUpdate t (.map (some b)) (enc q) v).run P w = .ok () (setBlock w b o) ∧ IterIs enc (setBlock w b o) r b (aput kv q v) left := by
  have hne := h.ne
  obtain ⟨es, clock, since, seen, c0, hb, hs, hm, hr, hold, hsc, hsk, hl⟩ := h
  rcases findNow_enc K q es.toList kv 0 hm with ⟨p1, p2, p3, p4, _⟩ | ⟨j, e', v0, p1, p2, p3, p4, p5, _, p7, _⟩
  · rw [p2] at hq; cases hq
  · have hj : es[j]? = some e' := by simpa using p2
    have hkey : ∀ x, es[j]? = some x → ({ x with key := enc q, val := v } : MapEntry).key = x.key := fun x hx => by rw [hj] at hx; cases hx; exact p3.symm
    obtain ⟨l1, l2, hsp, hlen⟩ := split_at es.toList j e' p2
    have hmod : (es.modify j fun x => { x with key := enc q, val := v }).toList = l1 ++ { e' with key := enc q, val := v } :: l2 := by
      rw [Array.toList_modify, hsp, ← hlen, modify_split]
    have hseen : seen.contains e'.born = true := by
      cases hh : seen.contains e'.born with
      | true => rfl
      | false =>
        exfalso
        have hmem : e' ∈ (leftOf es seen).toList := by
          simp only [leftOf, Array.toList_filter, List.mem_filter]
          exact ⟨by rw [hsp]; simp, by rw [hh]; rfl⟩
        have h2 : (e'.key, e'.val) ∈ left.map (fun p => (enc p.1, p.2)) := by
          rw [← hl]
          exact List.mem_map.2 ⟨e', hmem, rfl⟩
        obtain ⟨p, hp, hpe⟩ := List.mem_map.1 h2
        have : enc p.1 = enc q := by rw [← p3]; exact congrArg Prod.fst hpe
        exact hn (List.mem_map.2 ⟨p, hp, K.inj _ _ this⟩)
    have hleft : (leftOf (es.modify j fun x => { x with key := enc q, val := v }) seen).toList = (leftOf es seen).toList := by
      simp only [leftOf, Array.toList_filter]
      rw [hmod, hsp, List.filter_append, List.filter_append, List.filter_cons_of_neg (by simpa using hseen), List.filter_cons_of_neg (by simpa using hseen)]
    refine ⟨.map (es.modify j fun x => { x with key := enc q, val := v }) clock, ?_, es.modify j fun x => { x with key := enc q, val := v }, clock, since, seen, c0, heap_setBlock_same hb _, stamped_modify hs j _ (fun _ _ => rfl) (fun x _ hx => hkey x hx), ?_, ?_, ?_, hsc, hsk, ?_⟩
    · simp [Instr.mapUpdate, run_underlying ht, MapKept.run_getObj_map hb, MapKept.run_checkKey hk (K.key q), MapKept.run_findKey hk p1, hj, p3, MapKept.run_keyThatStays (K.key q), MapKept.run_setObj_map _ hb, Result.andThen, Go.ChangeMaps.setBlock]
    · rw [p7]
      apply List.ext_getElem?
      intro i
      have hm' := congrArg (fun l => l[i]?) hm
      simp only [List.getElem?_map] at hm'
      simp only [List.getElem?_map, Array.getElem?_toList, Array.getElem?_modify, List.getElem?_set]
      by_cases e : j = i
      · subst e
        have hl : j < kv.length := (List.getElem?_eq_some_iff.1 p5).1
        simp [hj, hl]
      · rw [if_neg e, if_neg e]
        simpa using hm'
    · simp only [setBlock, Array.getElem?_setIfInBounds]
      rw [if_neg (fun q => hne q.symm), hr]
    · intro x hx
      rw [hmod] at hx
      rcases List.mem_append.1 hx with hx | hx
      · exact hold x (by rw [hsp]; simp [hx])
      · rcases List.mem_cons.1 hx with rfl | hx
        · exact hold e' (by rw [hsp]; simp)
        · exact hold x (by rw [hsp]; simp [hx])
    · rw [hleft]
      exact hl
variable {ops : Array Oper} {rest : List Oper} {o : Oper} {a : Act} {Q : Exit → Act → World → Prop}
theorem wpList_update_iter (hg : o.guard = none) {m x v : Operand} (t : TypeId) (hop : o.op = .mapUpdate t m x v) (K : KeyEnc d enc) (ht : P.underlying t = some (.map k e)) (hk : P.underlying k = some d)
    (q : κ) (val : Value) (hm : a.eval m = .map (some b)) (hx : a.eval x = enc q) (hv : a.eval v = val) (h : IterIs enc w r b kv left) (hq : (aget kv q).isSome = true) (hn : q ∉ left.map (·.1))
    (hK : ∀ w', IterIs enc w' r b (aput kv q val) left → Only [b] w w' → wpList P ops Q rest (a.put o.dst undef) w') : wpList P ops Q (o :: rest) a w := by
  refine wpList_plain hg fun K' hK' => ?_
  obtain ⟨o', hrun, r1⟩ := h.update K ht hk q val hq hn
  unfold Oper.wp
  simp [execOp, hop, hm, hx, hv, hrun, Result.andThen]
  exact hK' _ _ (hK _ r1 ((Only.refl _ w).setBlock (.inl (by simp)) _))
theorem aput_mapf (F : κ → Value) (l : List κ) (hn : l.Nodup) (q : κ) (hq : q ∈ l) (v : Value) : aput (l.map fun a => (a, F a)) q v = l.map fun a => (a, if a = q then v else F a) := by
  induction l with
  | nil => cases hq
  | cons x l ih =>
    have hn' := List.nodup_cons.1 hn
    simp only [List.map_cons, aput]
    by_cases e : x = q
    · subst e
      rw [if_pos rfl, if_pos rfl]
      congr 1
      apply List.map_congr_left
      intro a ha
      rw [if_neg (fun (q' : a = x) => hn'.1 (by rw [← q']; exact ha))]
    · rw [if_neg e, if_neg e]
      congr 1
      refine ih hn'.2 ?_
      rcases List.mem_cons.1 hq with q | q
      · exact absurd q.symm e
      · exact q
end
end Go.Proofs.YthjgplgfcbhihaaGreat
/- Contracts: New, Join. -/
set_option linter.unusedVariables false
set_option linter.unusedSimpArgs false
namespace Go.Proofs.YthjgplgfcbhihaaGreat
open Go.RowKit Go Go.Sort
section
variable {P : Program} {C : World → Prop} {Q : Exit → Act → World → Prop} {l : List Oper} {H A T2 : List Nat} {r : List (List Nat × List Nat)} {K : Act → World → Prop} {a : Act} {w : World}
theorem stagesNil (h : wpT1 P l.toArray C Q (opsAt l A) (wpStages P l C Q K r) a w) : wpStages P l C Q K (([], A) :: r) a w := wpQuiet_nil (P := P) (ops := l.toArray) (C := C) h
theorem stagesFirst (h : wpQuiet P l.toArray C (fun a' => wpT1 P l.toArray C Q (opsAt l A) (wpStages P l C Q K r) a' w) (opsAt l H) a) : wpStages P l C Q K ((H, A) :: r) a w := h
theorem stagesNext (h : wpQuiet P l.toArray C (fun a' => wpT1 P l.toArray C Q (opsAt l A) (wpStages P l C Q K r) a' w) (opsAt l H) a) : wpT1 P l.toArray C Q (opsAt l []) (wpStages P l C Q K ((H, A) :: r)) a w := h
theorem stagesEnd (h : wpList P l.toArray Q (opsAt l T2) a w) : wpT1 P l.toArray C Q (opsAt l []) (wpStages P l C Q (fun a w => wpList P l.toArray Q (opsAt l T2) a w) []) a w := h
end
theorem stagesDone {P : Program} {C : World → Prop} {Q : Exit → Act → World → Prop} {l : List Oper} {a : Act} {w : World} (h : Q .normal a w) : wpT1 P l.toArray C Q (opsAt l []) (wpStages P l C Q (fun a w => wpList P l.toArray Q (opsAt l []) a w) []) a w := h
/-- What a call on a group leaves. -/
def GOut (w : World) (H : List Nat) (gb fb tb : Nat) (g' : GS) (w' : World) : Prop :=
  ∃ vw vp va vs pf, GAt w' gb fb tb vw vp va vs pf g' ∧ Stepped w w' H (hG gb fb tb (rowsOf vw vp va vs pf g'))
theorem strClone_any (s : ByteArray) (w : World) (hlim : s.size ≤ 281474976710656) :
    Calls Tryz.prog 24 #[.string s] w fun e w' => e = .returned (.string s) ∧ Only [] w w' := by
  go_enter Tryz.func24, Tryz.ntmps24
  go_wp2_with (go_at_call 82; refine (Tryz.stringslite_Clone s _ hlim).mono ?_; rintro e w' ⟨rfl, hb⟩)
  go_ret
  exact ⟨rfl, Only.of_below hb (Nat.le_refl _)⟩
set_option maxRecDepth 100000 in
theorem gnew_any (f b r : Int) (hok : GS.okNew f b r = true) (w : World) :
    Calls Tryz.prog 6 #[.agg #[.int .i64 f, .int .i64 b, .int .i64 r]] w fun e w' => ∃ gb fb tb, e = .returned (.tuple #[.pointer (some ⟨gb, 0, none⟩), .int .i64 0]) ∧
      GAt w' gb fb tb (.slice none 0 0) (.slice none 0 0) (.slice none 0 0) (.slice none 0 0) (fun _ => .slice none 0 0) (GS.new f b r) ∧ (∀ x ∈ hG gb fb tb (rowsOf (.slice none 0 0) (.slice none 0 0) (.slice none 0 0) (.slice none 0 0) (fun _ => .slice none 0 0) (GS.new f b r)), w.heap.size ≤ x) ∧ Only [] w w' := by
  simp [GS.okNew] at hok
  obtain ⟨h1, h2, h3, h4, h5, h6⟩ := hok
  have hmm := @run_makeMap Tryz.prog
  go_enter Tryz.func6, Tryz.ntmps6
  go_wp2
  go_ret2
  have hB := Blk.new (((w.alloc (.cells #[.int .i64 f, .int .i64 b, .int .i64 r] 30)).alloc (.map #[] 0)).alloc (.map #[] 0)) 60 #[.int .i64 f, .int .i64 b, .int .i64 r, .int .i64 f, .slice none 0 0, .map (some (w.heap.size + 1)), .slice none 0 0, .slice none 0 0, .slice none 0 0, .map (some (w.heap.size + 2))]
  have hm1 := (MapIs.new (κ := ByteArray) Value.string (w.alloc (.cells #[.int .i64 f, .int .i64 b, .int .i64 r] 30))).alloc (.map #[] 0)
  have hm2 := MapIs.new (κ := Int) (Value.int .i64) ((w.alloc (.cells #[.int .i64 f, .int .i64 b, .int .i64 r] 30)).alloc (.map #[] 0))
  simp only [World.size_alloc] at hB hm1 hm2
  refine ⟨w.heap.size + 3, w.heap.size + 1, w.heap.size + 2, rfl, ⟨hB, hm1.alloc _, hm2.alloc _, ⟨fun p hp => ?_, ?_⟩, by omega⟩, fun x hx => ?_, ((((Only.refl [] w).alloc _).alloc _).alloc _).alloc _⟩
  · simp [rowsOf, GS.new] at hp
    rcases hp with rfl | rfl | rfl | rfl <;> exact Own.nil _
  · simp [blocksOf, rowsOf, GS.new, Value.ownBlock]
  · simp [hG, blocksOf, rowsOf, GS.new, Value.ownBlock] at hx
    omega
section
variable {w : World} {gb fb tb N : Nat} {vw vp va vs : Value} {pf : ByteArray → Value} {g : GS}
theorem GOut.refl (h : GAt w gb fb tb vw vp va vs pf g) {w' : World} (k : Only [] w w') : GOut w (hG gb fb tb (rowsOf vw vp va vs pf g)) gb fb tb g w' :=
  ⟨vw, vp, va, vs, pf, h.only0 k, Stepped.first0 k (Stepped.refl _ _)⟩
set_option maxRecDepth 100000 in
set_option maxHeartbeats 1000000 in
theorem join_any (h : GAt w gb fb tb vw vp va vs pf g) (who : ByteArray) (hs : who.size ≤ maxLen) :
    Calls Tryz.prog 9 #[.pointer (some ⟨gb, 0, none⟩), .string who] w fun e w' => e = .returned (.int .i64 (g.join who).1) ∧ GOut w (hG gb fb tb (rowsOf vw vp va vs pf g)) gb fb tb (g.join who).2 w' := by
  unfold maxLen at hs
  have HN := Lib.hid (none_any h)
  by_cases h1 : who.size < 1
  · have hR : g.join who = (1, g) := by unfold GS.join; rw [if_pos (.inl h1)]
    rw [hR]
    clear hR
    go_enter Tryz.func9, Tryz.ntmps9
    go_wp2_with (go_at_call 22; refine HN.out.mono ?_; rintro e w1 ⟨rfl, rfl⟩)
    go_ret
    exact ⟨rfl, GOut.refl h (Only.refl _ _)⟩
  by_cases h2 : who.size > 60
  · have hR : g.join who = (1, g) := by unfold GS.join; rw [if_pos (.inr h2)]
    rw [hR]
    clear hR
    go_enter Tryz.func9, Tryz.ntmps9
    go_wp2_with (go_at_call 22; refine HN.out.mono ?_; rintro e w1 ⟨rfl, rfl⟩)
    go_ret
    exact ⟨rfl, GOut.refl h (Only.refl _ _)⟩
  have HI := Lib.hid (is_any h who)
  cases hi : g.is who with
  | true =>
    have hR : g.join who = (9, g) := by unfold GS.join; rw [if_neg (by omega), if_pos hi]
    rw [hR]
    rw [hi] at HI
    clear hR hi
    go_enter Tryz.func9, Tryz.ntmps9
    go_wp2_with (first
      | (go_at_call 22; refine HN.out.mono ?_; rintro e w1 ⟨rfl, rfl⟩)
      | (go_at_call 23; refine HI.out.mono ?_; rintro e w1 ⟨rfl, rfl⟩))
    go_ret
    exact ⟨rfl, GOut.refl h (Only.refl _ _)⟩
  | false =>
    rw [hi] at HI
    have c5 : w.cell? ⟨gb, 5, none⟩ = some (.map (some fb)) := h.blk.cell 5
    have hgl := h.blk.lt
    have hmap := h.flight
    have hlq : ∀ ty, (Builtin.len_ #[57] ty #[.map (some fb)]).run Tryz.prog w = .ok (.int .i64 g.flight.length) w := fun ty => by
      have := h.flight.len (P := Tryz.prog) Tryz.underlying57 ty
      simpa using this
    by_cases h3 : 20 ≤ g.flight.length
    · have hR : g.join who = (20, g) := by unfold GS.join; rw [if_neg (by omega), if_neg (by rw [hi]; decide), if_pos h3]
      rw [hR]
      clear hR hi
      have HM := Lib.hid hmap
      go_enter Tryz.func9, Tryz.ntmps9
      go_wp2_with (first
        | (go_at_call 22; refine HN.out.mono ?_; rintro e w1 ⟨rfl, rfl⟩)
        | (go_at_call 23; refine HI.out.mono ?_; rintro e w1 ⟨rfl, rfl⟩))
      go_ret
      exact ⟨rfl, GOut.refl h (Only.refl _ _)⟩
    · have hR : g.join who = (0, { g with flight := aput g.flight who [] }) := by unfold GS.join; rw [if_neg (by omega), if_neg (by rw [hi]; decide), if_neg h3]
      rw [hR]
      clear hR
      have HM := Lib.hid hmap
      have HC := Lib.hid (fun W => strClone_any who W (by omega))
      have k5 := Kept.cell (a := w) (R := []) c5 (.inl hgl)
      have hfv : fv pf g who = .slice none 0 0 := by unfold fv; rw [hi]; rfl
      have HP := Lib.hid (fun (w1 w2 : World) (k : RowTo w (fv pf g who) w1 (.slice none 0 0) []) (k2 : Only [fb] w1 w2) (hm : MapIs Value.string w2 fb (aput (g.flight.map fun p => (p.1, pf p.1)) who (.slice none 0 0))) => h.putF k k2 hm)
      clear hi
      go_enter Tryz.func9, Tryz.ntmps9
      go_wp2_with (first
        | (go_at_call 22; refine HN.out.mono ?_; rintro e w1 ⟨rfl, rfl⟩)
        | (go_at_call 23; refine HI.out.mono ?_; rintro e w1 ⟨rfl, rfl⟩))
      refine wp_region_stages (C := fun W => ∃ p : Kept w [] w, W = p.W) [([0, 1, 2, 3, 4], [5])] [6] (by kernel_rfl) (by kernel_rfl) (by intro c d u a w h; cases d <;> exact h) ⟨⟨_, (Keeps.refl _ _ _).drew⟩, rfl⟩ ?_
      refine stagesFirst ?_
      show wpQuiet _ _ _ _ [_, _, _, _, _] _
      repeat (go_big_quiet_step (fail))
      refine wpQuiet_nil ?_
      show wpList _ _ _ [_] _ _
      go_wp2_with (go_at_call 24; refine (HC.out _).mono ?_; rintro e w1 ⟨rfl, ho1⟩)
      have hO1 : Only [] w w1 := (Only.refl _ _).drew.trans ho1
      refine check_kept ((Keeps.refl _ _ _).drew.then0 ho1) ?_
      refine stagesEnd ?_
      show wpList _ _ _ [_] _ _
      refine wpList_update_is rfl 57 rfl keyEnc_string Tryz.underlying57 Tryz.underlying9 who (.slice none 0 0) rfl rfl rfl (HM.out.only hO1 (by simp)) ?_
      intro w2 hm2 hk2
      have hres := HP.out w1 w2 (by rw [hfv]; exact ⟨Own.nil _, hO1.of_nil, fun b hb => by cases hb⟩) hk2 hm2
      clear hm2 hk2 HP
      go_wp2
      go_ret
      exact ⟨rfl, _, _, _, _, _, hres.1, hres.2⟩
end
end Go.Proofs.YthjgplgfcbhihaaGreat
/- Contracts: Sort of a rising row; Feed. -/
set_option linter.unusedVariables false
set_option linter.unusedSimpArgs false
namespace Go.Proofs.YthjgplgfcbhihaaGreat
open Go.RowKit Go Go.Sort Go.Lib
theorem rangeUp_snoc : ∀ (k : Nat) (a : Int), rangeUp (k + 1) a = rangeUp k a ++ [a + k]
  | 0, a => by simp [rangeUp]
  | k + 1, a => by
    rw [rangeUp, rangeUp_snoc k (a + 1), rangeUp]
    simp
    omega
theorem sortI_any {w : World} {v : Value} {xs : List Int} (h : Own w v xs) (hr : Ris xs) (hb : xs.length ≤ 1000000000) :
    Calls Tryz.prog 26 #[v] w fun e w' => e = .returned (.tuple #[]) ∧ RowTo w v w' v xs := by
  by_cases hv : v = .slice none 0 0
  · subst hv
    have hx : xs = [] := by
      rcases own_parts h with ⟨_, q⟩ | ⟨g, cap, cs, q, _⟩
      · exact q
      · cases q
    subst hx
    exact (Tryz.slices_Sort_int_none none 0 w).mono fun e w' ⟨h1, h2⟩ => ⟨h1, by rw [h2]; exact RowTo.same h (Only.refl _ _)⟩
  · obtain ⟨g, cap, rfl, _, hg, hn, hm, hz, hH⟩ := holds_of_ownsRow (enc := Value.int .i64) (zs := xs) h hv
    refine (Tryz.slices_Sort_int g 0 cap xs w hH hg (by omega)).mono ?_
    rintro e w' ⟨rfl, q, os, rfl⟩
    rw [ris_sort hr]
    have hr2 := ownsRow_putRow (enc := Value.int .i64) (q := q) (ys := xs) (k := xs.length) h rfl (Nat.le_refl _)
    rw [List.take_length] at hr2
    have hO : Only [g] w (putRow (Value.int .i64) (Sort.ahead w q) g 0 xs.toArray) := ⟨rfl, rfl, rfl, by simp [putRow, mapBlock, Sort.ahead], fun k _ hk => by
      have : g ≠ k := by simp at hk; omega
      simp [putRow, mapBlock, Sort.ahead, Array.getElem?_modify, this]⟩
    have hG : ∀ W : World, Only [] W (grow W os) := fun W => ⟨rfl, rfl, rfl, by simp [grow], fun k hk _ => by simp [grow, Array.getElem?_append_left hk]⟩
    exact ⟨rfl, ⟨(show Own _ _ xs from hr2).only0 (hG _), hO.trans ((hG _).of_nil), fun b hb => .inl hb⟩⟩
section
variable {w : World} {gb fb tb N : Nat} {vw vp va vs : Value} {pf : ByteArray → Value} {g : GS}
def feedTo (g : GS) (i : Nat) : GS := { g with waiting := g.waiting ++ rangeUp i g.next, next := g.next + i }
theorem feedTo_zero (g : GS) : feedTo g 0 = g := by
  cases g
  simp [feedTo, rangeUp]
theorem feedTo_succ (g : GS) (i : Nat) : feedTo g (i + 1) = { feedTo g i with waiting := (feedTo g i).waiting ++ [g.next + i], next := g.next + i + 1 } := by
  unfold feedTo
  simp only [GS.mk.injEq, true_and, and_true]
  rw [rangeUp_snoc, List.append_assoc]
  refine ⟨?_, rfl⟩
  omega
theorem feedTo_ok (hok : g.Ok N) {i : Nat} (hi : i ≤ 1000) : (feedTo g i).Ok (N + 1) := by
  have h' := hok.more (Nat.le_succ N)
  have hw := hok.wa.up hok.nx.1 i
  have hn : g.next ≤ g.next + (i : Int) := by omega
  exact ⟨hok.fr, hok.bu, hok.re, ⟨by show g.from_ ≤ g.next + i; have := hok.nx.1; omega, by show g.next + i ≤ g.from_ + 1000 * ((N + 1 : Nat) : Int); have := hok.nx.2; omega⟩, hw, hok.pa.more hn, hok.ac.more hn, hok.sk.more hn, fun p hp => (hok.fl p hp).more hn, hok.few, hok.nod, h'.tr⟩
set_option maxRecDepth 100000 in
set_option maxHeartbeats 2000000 in
theorem feed_any (h : GAt w gb fb tb vw vp va vs pf g) (hok : g.Ok N) (hN : N ≤ 10000) (n : Int) :
    Calls Tryz.prog 10 #[.pointer (some ⟨gb, 0, none⟩), .int .i64 n] w fun e w' => e = .returned (.int .i64 (g.feed n).1) ∧ GOut w (hG gb fb tb (rowsOf vw vp va vs pf g)) gb fb tb (g.feed n).2 w' := by
  have HN := Lib.hid (none_any h)
  by_cases h1 : n < 1
  · have hR : g.feed n = (0, g) := by unfold GS.feed; rw [if_pos h1]
    rw [hR]
    clear hR
    go_enter Tryz.func10, Tryz.ntmps10
    go_wp2_with (go_at_call 22; refine HN.out.mono ?_; rintro e w1 ⟨rfl, rfl⟩)
    go_ret
    exact ⟨rfl, GOut.refl h (Only.refl _ _)⟩
  · obtain ⟨k, hk⟩ : ∃ k, k = (max (min n (1000 - (g.openN : Int))) 0).toNat := ⟨_, rfl⟩
    have hkI : max (min n (1000 - (g.openN : Int))) 0 = (k : Int) := by omega
    have hk1 : k ≤ 1000 := by omega
    have hR : g.feed n = ((k : Int), feedTo g k) := by
      unfold GS.feed feedTo
      rw [if_neg h1]
      dsimp only
      rw [← hk, GS.feed_wait hok]
    rw [hR]
    have hO := Lib.hid (open_any h hok (by omega))
    have hT := hok.open_le
    obtain ⟨T, hT2⟩ : ∃ T, T = g.openN := ⟨_, rfl⟩
    rw [← hT2] at hO hT hkI
    obtain ⟨i0, hi, hz0, hz1, hz2⟩ := info_parts infoI
    clear hR hk hT2
    go_enter Tryz.func10, Tryz.ntmps10
    go_wp2_with (first
      | (go_at_call 22; refine HN.out.mono ?_; rintro e w1 ⟨rfl, rfl⟩)
      | (go_at_call 25; refine hO.out.mono ?_; rintro e w1 ⟨rfl, ho1⟩))
    have hnx1 := hok.nx
    have hfr1 := hok.fr
    go_loopw [18] (fun iv wr => ∃ (i : Nat) (vw' : Value), i ≤ k ∧ iv = .int .i64 i ∧ GAt wr gb fb tb vw' vp va vs pf (feedTo g i) ∧ Stepped w wr (hG gb fb tb (rowsOf vw vp va vs pf g)) (hG gb fb tb (rowsOf vw' vp va vs pf (feedTo g i)))) (fun iv _ => k - (intOf iv).toNat)
    case atStart => exact ⟨0, vw, Nat.zero_le _, rfl, by rw [feedTo_zero]; exact h.only0 ho1, by rw [feedTo_zero]; exact Stepped.first0 ho1 (Stepped.refl _ _)⟩
    case round =>
      obtain ⟨i, vw', hik, rfl, hA, hSt⟩ := hrel
      by_cases hlt : i < k
      · have hwl := (feedTo_ok hok (i := i) (by omega)).len (feedTo_ok hok (i := i) (by omega)).wa
        have c4 : wr.cell? ⟨gb, 4, none⟩ = some vw' := hA.blk.cell 4
        have c3 : wr.cell? ⟨gb, 3, none⟩ = some (.int .i64 (g.next + i)) := hA.blk.cell 3
        have hstep : ∀ (w4 : World) (v' : Value), RowTo wr vw' w4 v' ((feedTo g i).waiting ++ [g.next + i]) → GAt ((w4.setCell ⟨gb, 4, none⟩ v').setCell ⟨gb, 3, none⟩ (.int .i64 (g.next + i + 1))) gb fb tb v' vp va vs pf (feedTo g (i + 1)) ∧ Stepped w ((w4.setCell ⟨gb, 4, none⟩ v').setCell ⟨gb, 3, none⟩ (.int .i64 (g.next + i + 1))) (hG gb fb tb (rowsOf vw vp va vs pf g)) (hG gb fb tb (rowsOf v' vp va vs pf (feedTo g (i + 1)))) := fun w4 v' kr => by
          obtain ⟨k1, k2⟩ := hA.setW kr
          obtain ⟨k3, k4⟩ := k1.setN (g.next + i + 1)
          rw [feedTo_succ]
          exact ⟨k3, (hSt.trans k2).trans k4⟩
        have HStep := Lib.hid hstep
        obtain ⟨Aw, cw, rfl, hw1, hw2⟩ := own_form hA.ownW
        have hnS : gb ∉ (Value.slice Aw (feedTo g i).waiting.length cw).ownBlock.toList := fun q => (hA.rowne gb (mem_blocksOf.2 ⟨(.slice Aw (feedTo g i).waiting.length cw, (feedTo g i).waiting), by simp [rowsOf], by simpa using q⟩)).1 rfl
        have hB := hA.blk
        have hown := hA.ownW
        obtain ⟨xs, hxs⟩ : ∃ xs, xs = (feedTo g i).waiting := ⟨_, rfl⟩
        rw [← hxs] at hown HStep c4 hw1 hwl hnS hB
        obtain ⟨S, hS⟩ : ∃ S, S = (Value.slice Aw xs.length cw).ownBlock.toList := ⟨_, rfl⟩
        rw [← hS] at hnS
        have k4 := Within.cell (S := S) c4 hnS
        have k3 := Within.cell (S := S) c3 hnS
        have hlw := hA.blk.lt
        clear hstep c3 c4 hxs hA
        go_wp2_with fail
        refine wp_region_stages (C := fun W => ∃ p : Within S wr, W = p.W) [([0, 1, 2, 3, 4, 5, 6, 7, 8], [9, 10])] [11, 12, 13] (by kernel_rfl) (by kernel_rfl) (by intro c d u a w h; cases d <;> exact h) ⟨⟨_, (Only.refl _ _).drew⟩, rfl⟩ ?_
        refine stagesFirst ?_
        show wpQuiet _ _ _ _ [_, _, _, _, _, _, _, _, _] _
        repeat (go_big_quiet_step (fail))
        refine wpQuiet_nil ?_
        show wpList _ _ _ [_] _ _
        go_wp2_with fail
        refine check_of (S := S) (((Only.refl S wr).drew).alloc _) ?_
        show wpList _ _ _ [_] _ _
        have hOw : ∀ o, Only [] wr (wr.alloc o).drew := fun o => ((Only.refl [] wr).alloc o).drew
        have hown0 : ∀ o, ((wr.alloc o).drew).ownsRow 0 3 1 (.slice Aw xs.length cw) xs.length (ints xs) := fun o => hown.only0 (hOw o)
        have hnb : Blk (wr.alloc (.cells #[.int .i64 (g.next + i)] 3)).drew wr.heap.size 3 #[.int .i64 (g.next + i)] := Blk.new wr 3 #[.int .i64 (g.next + i)]
        refine wpList_append_lies _ rfl (.tmp 24) (.tmp 29) 43 rfl 0 3 i0 (.int .i64 0) 1 8 Tryz.underlying43 hi hz0 hz1 hz2 rfl (by decide) (.slice Aw xs.length cw) xs.length _ rfl (hown0 _) ⟨wr.heap.size, 0, none⟩ 1 1 [.int .i64 (g.next + i)] rfl rfl (news_blk hnb) ?c2 (by decide) ?c3 ?c4 (Nat.zero_le _) _ rfl ?_
        case c2 => simp [Value.oneCell']
        case c3 => unfold maxLen; omega
        case c4 => omega
        intro g4 cap4 w4 hown4 hgrow4 hlie4 hg4
        have hO4 : Only S wr w4 := ((hOw _).of_nil).grown hgrow4 (fun b hb => .inl (by rw [hS]; simp [hb]))
        have hrt : RowTo wr (.slice Aw xs.length cw) w4 (.slice (some ⟨g4, 0, none⟩) (xs.length + 1) cap4) (xs ++ [g.next + i]) := by
          refine ⟨?_, by rw [← hS]; exact hO4, fun b hb => ?_⟩
          · unfold Own
            rw [show ints (xs ++ [g.next + (i : Int)]) = ints xs ++ [.int .i64 (g.next + i)] by simp [ints], List.length_append]
            exact hown4
          · cases hb
            exact hlie4.imp id (fun q => by rw [q]; simp)
        have hres := HStep.out w4 _ hrt
        have HRes := Lib.hid hres
        have hB4 := hO4.blk hB hnS
        have e3 : w4.cell? ⟨gb, 3, none⟩ = some (.int .i64 (g.next + i)) := hB4.cell 3
        have e4 : w4.cell? ⟨gb, 4, none⟩ = some (.slice Aw xs.length cw) := hB4.cell 4
        have ef := fun j => hB4.free j
        clear hown4 hgrow4 hlie4 hrt hres hnb hown0 hown
        refine check_of hO4 ?_
        refine stagesEnd ?_
        show wpList _ _ _ [_, _, _] _ _
        go_wp2
        exact ⟨⟨i + 1, _, hlt, by simp, HRes.out.1, HRes.out.2⟩, by simp [intOf]; omega⟩
      · have hke : i = k := by omega
        subst hke
        have hOk := feedTo_ok hok (i := i) (by omega)
        have hsrt := sortI_any hA.ownW hOk.wa.ris (by have := hOk.len hOk.wa; omega)
        have c4 : wr.cell? ⟨gb, 4, none⟩ = some vw' := hA.blk.cell 4
        have HT := Lib.hid (fun (w1 : World) (kr : RowTo wr vw' w1 vw' (feedTo g i).waiting) => hA.touchW kr)
        obtain ⟨Aw, cw, rfl, _, _⟩ := own_form hA.ownW
        have HS := Lib.hid hsrt
        clear hsrt
        go_wp2_with (go_at_call 26; refine HS.out.mono ?_; rintro e w5 ⟨rfl, hr5⟩)
        go_ret
        have q := HT.out w5 hr5
        exact ⟨rfl, _, _, _, _, _, q.1, hSt.trans q.2⟩
end
end Go.Proofs.YthjgplgfcbhihaaGreat
/- Contract: Next. -/
set_option linter.unusedVariables false
set_option linter.unusedSimpArgs false
namespace Go.Proofs.YthjgplgfcbhihaaGreat
open Go.RowKit Go Go.Sort Go.Lib
def GS.next1 (g : GS) (who : ByteArray) : (Int × Bool) × GS := match g.take1 who with | none => ((0, false), g) | some r => ((r.1, true), r.2)
section
variable {w : World} {gb fb tb N : Nat} {vw vp va vs : Value} {pf : ByteArray → Value} {g : GS}
theorem kept_map {b : Nat} {kv : List (ByteArray × Value)} (h : MapIs Value.string w b kv) (p : Kept w [] w) : MapIs Value.string p.W b kv := by
  obtain ⟨S, h1, h2⟩ := p.h
  exact h.only h1 (fun q => by have := (h2 b q).1; have := h.lt; omega)
theorem lookF (h : GAt w gb fb tb vw vp va vs pf g) (who : ByteArray) (p : Kept w [] w) : (Instr.lookup 57 (.map (some fb)) (.string who) false).run Tryz.prog p.W = .ok (fv pf g who) p.W := by
  have := (kept_map h.flight p).lookup (P := Tryz.prog) keyEnc_string Tryz.underlying57 Tryz.underlying9 (zeroInts _) who false
  rw [flightOf] at this
  exact this
set_option maxRecDepth 100000 in
set_option maxHeartbeats 2000000 in
theorem next_any (h : GAt w gb fb tb vw vp va vs pf g) (hok : g.Ok N) (hN : N ≤ 10000) (who : ByteArray) :
    Calls Tryz.prog 15 #[.pointer (some ⟨gb, 0, none⟩), .string who] w fun e w' => e = .returned (.tuple #[.int .i64 (g.next1 who).1.1, .bool (g.next1 who).1.2]) ∧ GOut w (hG gb fb tb (rowsOf vw vp va vs pf g)) gb fb tb (g.next1 who).2 w' := by
  have HRefl := Lib.hid (fun (w' : World) (k : Only [] w w') => GOut.refl h k)
  obtain ⟨H, hH⟩ : ∃ H, H = hG gb fb tb (rowsOf vw vp va vs pf g) := ⟨_, rfl⟩
  rw [← hH] at HRefl ⊢
  have HH := Lib.hid hH
  clear hH
  have HI := Lib.hid (fun (W : World) (hW : Only [] w W) => is_any (h.only0 hW) who)
  have c1 : w.cell? ⟨gb, 1, none⟩ = some (.int .i64 g.buffer) := h.blk.cell 1
  have c4 : w.cell? ⟨gb, 4, none⟩ = some vw := h.blk.cell 4
  have c5 : w.cell? ⟨gb, 5, none⟩ = some (.map (some fb)) := h.blk.cell 5
  have hgl := h.blk.lt
  have k1 := Kept.cell (a := w) (R := []) c1 (.inl hgl)
  have k4 := Kept.cell (a := w) (R := []) c4 (.inl hgl)
  have k5 := Kept.cell (a := w) (R := []) c5 (.inl hgl)
  have klk := lookF h who
  cases hi : g.is who with
  | false =>
    have hR : g.next1 who = ((0, false), g) := by unfold GS.next1 GS.take1; rw [if_pos (.inl hi)]
    rw [hR]
    rw [hi] at HI
    clear hR hi klk k1 k4 k5
    go_enter Tryz.func15, Tryz.ntmps15
    go_wp2_with fail
    refine wp_region_stages (C := fun W => ∃ p : Kept w [] w, W = p.W) [([0, 1], [2]), ([3, 4, 5, 6, 7, 8, 9, 10, 11, 12, 13, 14, 15, 16, 17, 18, 19, 20, 21, 22, 23, 24, 25, 26], [])] [] (by kernel_rfl) (by kernel_rfl) (by intro c d u a w h; cases d <;> exact h) ⟨⟨_, (Keeps.refl _ _ _).drew⟩, rfl⟩ ?_
    refine stagesFirst ?_
    show wpQuiet _ _ _ _ [_, _] _
    repeat (go_big_quiet_step (fail))
    refine wpQuiet_nil ?_
    show wpList _ _ _ [_] _ _
    go_wp2_with (go_at_call 23; refine (HI.out _ (Only.refl _ _).drew).mono ?_; rintro e w1 ⟨rfl, rfl⟩)
    refine check_kept ((Keeps.refl _ _ _).drew) ?_
    refine stagesNext ?_
    show wpQuiet _ _ _ _ [_, _, _, _, _, _, _, _, _, _, _, _, _, _, _, _, _, _, _, _, _, _, _, _] _
    try go_frame
    repeat (go_big_quiet_step (fail))
    refine wpQuiet_nil ?_
    refine stagesDone ?_
    go_wp2
    go_ret2
    exact ⟨rfl, HRefl.out _ (Only.refl _ _).drew⟩
  | true =>
    rw [hi] at HI
    obtain ⟨Aw, cw, rfl, hwn1, hwn2, helw⟩ := h.ownW.slc.openI
    obtain ⟨Af, cf, hfv, hf1, hf2⟩ := own_form (h.fl who)
    rw [hfv] at klk
    obtain ⟨fl, hfl⟩ : ∃ fl, fl = g.fl who := ⟨_, rfl⟩
    rw [← hfl] at klk
    by_cases h2 : g.buffer ≤ fl.length
    · have hR : g.next1 who = ((0, false), g) := by unfold GS.next1 GS.take1; rw [if_pos (.inr (by rw [← hfl]; exact h2))]
      rw [hR]
      clear hR hi hfl hfv helw
      go_enter Tryz.func15, Tryz.ntmps15
      go_wp2_with fail
      refine wp_region_stages (C := fun W => ∃ p : Kept w [] w, W = p.W) [([0, 1], [2]), ([3, 4, 5, 6, 7, 8, 9, 10, 11, 12, 13, 14, 15, 16, 17, 18, 19, 20, 21, 22, 23, 24, 25, 26], [])] [] (by kernel_rfl) (by kernel_rfl) (by intro c d u a w h; cases d <;> exact h) ⟨⟨_, (Keeps.refl _ _ _).drew⟩, rfl⟩ ?_
      refine stagesFirst ?_
      show wpQuiet _ _ _ _ [_, _] _
      repeat (go_big_quiet_step (fail))
      refine wpQuiet_nil ?_
      show wpList _ _ _ [_] _ _
      go_wp2_with (go_at_call 23; refine (HI.out _ (Only.refl _ _).drew).mono ?_; rintro e w1 ⟨rfl, rfl⟩)
      refine check_kept ((Keeps.refl _ _ _).drew) ?_
      refine stagesNext ?_
      show wpQuiet _ _ _ _ [_, _, _, _, _, _, _, _, _, _, _, _, _, _, _, _, _, _, _, _, _, _, _, _] _
      try go_frame
      repeat (go_big_quiet_step (fail))
      refine wpQuiet_nil ?_
      refine stagesDone ?_
      go_wp2
      go_ret2
      exact ⟨rfl, HRefl.out _ (Only.refl _ _).drew⟩
    · cases hw : g.waiting with
      | nil =>
        have hb2 : decide (g.buffer ≤ (fl.length : Int)) = false := decide_eq_false h2
        have hR : g.next1 who = ((0, false), g) := by unfold GS.next1 GS.take1; rw [if_neg (by rw [hi, ← hfl]; simp; omega), hw]
        rw [hR]
        rw [hw] at k4
        clear hR hi hfl hfv helw
        go_enter Tryz.func15, Tryz.ntmps15
        go_wp2_with fail
        refine wp_region_stages (C := fun W => ∃ p : Kept w [] w, W = p.W) [([0, 1], [2]), ([3, 4, 5, 6, 7, 8, 9, 10, 11, 12, 13, 14, 15, 16, 17, 18, 19, 20, 21, 22, 23, 24, 25, 26], [])] [] (by kernel_rfl) (by kernel_rfl) (by intro c d u a w h; cases d <;> exact h) ⟨⟨_, (Keeps.refl _ _ _).drew⟩, rfl⟩ ?_
        refine stagesFirst ?_
        show wpQuiet _ _ _ _ [_, _] _
        repeat (go_big_quiet_step (fail))
        refine wpQuiet_nil ?_
        show wpList _ _ _ [_] _ _
        go_wp2_with (go_at_call 23; refine (HI.out _ (Only.refl _ _).drew).mono ?_; rintro e w1 ⟨rfl, rfl⟩)
        refine check_kept ((Keeps.refl _ _ _).drew) ?_
        refine stagesNext ?_
        show wpQuiet _ _ _ _ [_, _, _, _, _, _, _, _, _, _, _, _, _, _, _, _, _, _, _, _, _, _, _, _] _
        try go_frame
        repeat (go_big_quiet_step (fail))
        refine wpQuiet_nil ?_
        refine stagesDone ?_
        go_wp2
        go_ret2
        exact ⟨rfl, HRefl.out _ (Only.refl _ _).drew⟩
      | cons x xs =>
        have hb2 : decide (g.buffer ≤ (fl.length : Int)) = false := decide_eq_false h2
        have hR : g.next1 who = ((x, true), { g with waiting := xs, flight := aput g.flight who (insL (g.fl who) x), tries := aput g.tries x (g.tr x + 1) }) := by unfold GS.next1 GS.take1; rw [if_neg (by rw [hi, ← hfl]; simp; omega), hw]
        rw [hR]
        have hln : (0 : Int) < (x :: xs).length := by simp
        obtain ⟨b, off, rfl, hbb, hc⟩ := helw 0 (by rw [hw]; simp)
        have d0 : w.drew.cell? ⟨b, off, none⟩ = some (.int .i64 x) := by
          show w.cell? _ = _
          rw [Nat.add_zero] at hc
          rw [hc]
          simp [hw]
        have hbl : (((x :: xs).length : Int) == 0) = false := by rw [beq_eq_false_iff_ne]; simp; omega
        rw [hw] at k4 c4
        obtain ⟨L, hL⟩ : ∃ L, L = (x :: xs).length := ⟨_, rfl⟩
        rw [← hL] at k4 c4 hln hbl
        have hLp : 0 < L := by omega
        have HFl := Lib.hid hfl
        have HFv := Lib.hid hfv
        clear hR hi helw hc hfl hfv
        go_enter Tryz.func15, Tryz.ntmps15
        go_wp2_with fail
        refine wp_region_stages (C := fun W => ∃ p : Kept w [] w, W = p.W) [([0, 1], [2]), ([3, 4, 5, 6, 7, 8, 9, 10, 11, 12, 13, 14, 15, 16, 17, 18, 19, 20, 21, 22, 23, 24, 25, 26], [])] [] (by kernel_rfl) (by kernel_rfl) (by intro c d u a w h; cases d <;> exact h) ⟨⟨_, (Keeps.refl _ _ _).drew⟩, rfl⟩ ?_
        refine stagesFirst ?_
        show wpQuiet _ _ _ _ [_, _] _
        repeat (go_big_quiet_step (fail))
        refine wpQuiet_nil ?_
        show wpList _ _ _ [_] _ _
        go_wp2_with (go_at_call 23; refine (HI.out _ (Only.refl _ _).drew).mono ?_; rintro e w1 ⟨rfl, rfl⟩)
        refine check_kept ((Keeps.refl _ _ _).drew) ?_
        refine stagesNext ?_
        show wpQuiet _ _ _ _ [_, _, _, _, _, _, _, _, _, _, _, _, _, _, _, _, _, _, _, _, _, _, _, _] _
        try go_frame
        repeat (go_big_quiet_step (fail))
        refine wpQuiet_nil ?_
        refine stagesDone ?_
        have hd : Only [] w w.drew := (Only.refl [] w).drew
        have h0 := h.only0 hd
        have hwO : Own w.drew (.slice (some ⟨b, off, none⟩) (xs.length + 1) cw) (x :: xs) := by
          have := h0.ownW
          rw [hw] at this
          exact this
        have hxl : (x :: xs).length ≤ 1000000000 := by
          have := hok.len hok.wa
          rw [hw] at this
          omega
        have hD : Calls Tryz.prog 77 #[.slice (some ⟨b, off, none⟩) (xs.length + 1) cw, .int .i64 0, .int .i64 1] w.drew fun e w' => ∃ v', e = .returned v' ∧ RowTo w.drew (.slice (some ⟨b, off, none⟩) (xs.length + 1) cw) w' v' xs := deleteI_any hwO hxl (i := 0) (by simp)
        have hset : ∀ (w2 : World) (v2 : Value), RowTo w.drew (.slice (some ⟨b, off, none⟩) (xs.length + 1) cw) w2 v2 xs → GAt (w2.setCell ⟨gb, 4, none⟩ v2) gb fb tb v2 vp va vs pf { g with waiting := xs } ∧ Stepped w (w2.setCell ⟨gb, 4, none⟩ v2) H (hG gb fb tb (rowsOf v2 vp va vs pf { g with waiting := xs })) := fun w2 v2 k => by
          have hk : RowTo w.drew (.slice (some ⟨b, off, none⟩) g.waiting.length cw) w2 v2 xs := by rw [hw]; exact k
          obtain ⟨k1, k2⟩ := h0.setW hk
          rw [HH.out]
          exact ⟨k1, Stepped.first0 hd k2⟩
        have hne : b ≠ gb := (h.rowne b (mem_blocksOf.2 ⟨(.slice (some ⟨b, off, none⟩) g.waiting.length cw, g.waiting), by simp [rowsOf], rfl⟩)).1
        have hgb4 : gb ∉ (Value.slice (some ⟨b, off, none⟩) (xs.length + 1) cw).ownBlock.toList := by
          simp [Value.ownBlock]
          exact fun q => hne q.symm
        have hB0 := h0.blk
        have HD := Lib.hid hD
        have HSet := Lib.hid hset
        have HOk := Lib.hid hok
        have hflb := hok.len (hok.flOf who)
        have hflr := (hok.flOf who).ris
        rw [← HFl.out] at hflb hflr
        have htr := hok.trOf x
        clear hD hset h0 hwO hw hok
        go_wp2_with (go_at_call 77; refine HD.out.mono ?_; rintro e w2 ⟨v2, rfl, kr2⟩
                     obtain ⟨A2, c2, rfl, _, _⟩ := own_form kr2.own
                     have hB2 := kr2.only.blk hB0 hgb4
                     have e4 : w2.cell? ⟨gb, 4, none⟩ = some (.slice (some ⟨b, off, none⟩) g.waiting.length cw) := hB2.cell 4
                     have ef : w2.frozen? ⟨gb, 4, none⟩ = false := hB2.free 4)
        have q3 := HSet.out w2 _ kr2
        obtain ⟨v2, hv2⟩ : ∃ v2, v2 = Value.slice A2 xs.length c2 := ⟨_, rfl⟩
        rw [← hv2] at q3 ⊢
        obtain ⟨w3, hw3⟩ : ∃ w3, w3 = w2.setCell ⟨gb, 4, none⟩ v2 := ⟨_, rfl⟩
        rw [← hw3] at q3 ⊢
        obtain ⟨h3, st3⟩ := q3
        clear hw3 hv2 e4 ef hB2 kr2 HSet HD hB0 hgb4
        have hfv3 : fv pf { g with waiting := xs } who = .slice Af fl.length cf := by
          have := HFv.out
          rw [← HFl.out] at this
          exact this
        have hfl3 : GS.fl { g with waiting := xs } who = fl := HFl.out.symm
        have hF3 := h3.fl who
        rw [hfv3, hfl3] at hF3
        obtain ⟨S, hS⟩ : ∃ S, S = (Value.slice Af fl.length cf).ownBlock.toList := ⟨_, rfl⟩
        have hSin : ∀ y ∈ S, y ≠ gb ∧ y ≠ fb ∧ y ≠ tb := fun y hy => by
          rw [hS] at hy
          have hy' : (fv pf { g with waiting := xs } who).ownBlock = some y := by rw [hfv3]; simpa using hy
          have hmem : y ∈ blocksOf (rowsOf v2 vp va vs pf { g with waiting := xs }) := by
            unfold fv GS.is at hy'
            cases hx : aget g.flight who with
            | none => simp only [hx] at hy'; cases hy'
            | some l =>
              simp only [hx] at hy'
              refine mem_blocksOf.2 ⟨(pf who, l), ?_, hy'⟩
              simp only [rowsOf, List.mem_cons]
              exact .inr (.inr (.inr (.inr (List.mem_map.2 ⟨(who, l), aget_mem hx, rfl⟩))))
          exact h3.rowne y hmem
        have hgS : gb ∉ S := fun q => (hSin gb q).1 rfl
        have hfS : fb ∉ S := fun q => (hSin fb q).2.1 rfl
        have m5 := Within.cell (S := S) (h3.blk.cell 5 : w3.cell? ⟨gb, 5, none⟩ = some (.map (some fb))) hgS
        have mlk : ∀ p : Within S w3, (Instr.lookup 57 (.map (some fb)) (.string who) false).run Tryz.prog p.W = .ok (.slice Af fl.length cf) p.W := fun p => by
          have := (h3.flight.only p.h hfS).lookup (P := Tryz.prog) keyEnc_string Tryz.underlying57 Tryz.underlying9 (zeroInts _) who false
          rw [flightOf, hfv3] at this
          exact this
        have HIn := Lib.hid (insert_any (hF3.only0 ((Only.refl [] w3).drew)) hflr (by omega) x)
        clear k1 k4 k5 klk c1 c4 c5 HI hfl3
        refine wp_region_stages (C := fun W => ∃ p : Within S w3, W = p.W) [([0, 1, 2, 3, 4, 5, 6, 7, 8, 9, 10, 11], [12])] [13] (by kernel_rfl) (by kernel_rfl) (by intro c d u a w h; cases d <;> exact h) ⟨⟨_, (Only.refl _ _).drew⟩, rfl⟩ ?_
        refine stagesFirst ?_
        show wpQuiet _ _ _ _ [_, _, _, _, _, _, _, _, _, _, _, _] _
        repeat (go_big_quiet_step (fail))
        refine wpQuiet_nil ?_
        show wpList _ _ _ [_] _ _
        go_wp2_with (go_at_call 78; refine HIn.out.mono ?_; rintro e w4 ⟨v4, rfl, kr4⟩)
        have kr : RowTo w3 (.slice Af fl.length cf) w4 v4 (insL fl x) := RowTo.first0 ((Only.refl [] w3).drew) kr4
        have hkS : Only S w3 w4 := by rw [hS]; exact kr.only
        have hmF := h3.flight.only hkS hfS
        have hput := fun (w5 : World) (k2 : Only [fb] w4 w5) (hm : MapIs Value.string w5 fb (aput (g.flight.map fun p => (p.1, pf p.1)) who v4)) => h3.putF (who := who) (by rw [hfv3]; exact kr) k2 hm
        have HPut := Lib.hid hput
        clear hput kr kr4 hF3 mlk m5 HIn hS hfv3
        refine check_of (S := S) hkS ?_
        refine stagesEnd ?_
        show wpList _ _ _ [_] _ _
        refine wpList_update_is rfl 57 rfl keyEnc_string Tryz.underlying57 Tryz.underlying9 who v4 rfl rfl rfl hmF ?_
        intro w5 hm5 hk5
        obtain ⟨h5, st5⟩ := HPut.out w5 hk5 hm5
        clear hm5 hk5 HPut hmF
        have c9 : w5.cell? ⟨gb, 9, none⟩ = some (.map (some tb)) := h5.blk.cell 9
        have HTr := Lib.hid (show (aget (g.tries.map fun p => (p.1, Value.int .i64 p.2)) x).getD (.int .i64 0) = .int .i64 (g.tr x) from triesOf g x)
        have hm5t : MapIs (Value.int .i64) w5 tb (g.tries.map fun p => (p.1, Value.int .i64 p.2)) := h5.tries
        have HM5 := Lib.hid hm5t
        have hnT := h5.nodT
        have hap : aput (g.tries.map fun p => (p.1, Value.int .i64 p.2)) x (.int .i64 (g.tr x + 1)) = (aput g.tries x (g.tr x + 1)).map fun p => (p.1, Value.int .i64 p.2) := aput_mapk (fun _ k => Value.int .i64 k) (fun _ k => Value.int .i64 k) g.tries hnT x (g.tr x + 1) _ rfl (fun _ _ => rfl)
        have HAp := Lib.hid hap
        obtain ⟨t, ht⟩ : ∃ t, t = g.tr x := ⟨_, rfl⟩
        rw [← ht] at HTr HAp htr
        have HTe := Lib.hid ht
        clear hap hm5t ht
        go_wp2_with (first
          | (refine wpList_lookup_is rfl 58 rfl (keyEnc_int .i64) Tryz.underlying58 Tryz.underlying3 (zeroInt _) x rfl rfl HM5.out _ HTr.out ?_)
          | (refine wpList_update_is rfl 58 rfl (keyEnc_int .i64) Tryz.underlying58 Tryz.underlying3 x (.int .i64 (t + 1)) rfl rfl rfl HM5.out ?_; intro w6 hm6 hk6))
        rw [HAp.out] at hm6
        obtain ⟨h6, st6⟩ := h5.setT hk6 hm6
        go_ret2
        rw [← HFl.out, ← HTe.out]
        exact ⟨rfl, _, _, _, _, _, h6, (st3.trans st5).trans st6⟩
end
end Go.Proofs.YthjgplgfcbhihaaGreat
/- Contract: take. -/
set_option linter.unusedVariables false
set_option linter.unusedSimpArgs false
namespace Go.Proofs.YthjgplgfcbhihaaGreat
open Go.RowKit Go Go.Sort Go.Lib
theorem takeGo_snoc : ∀ (l f : List Int) (n : Int), GS.takeGo f (l ++ [n]) = if (GS.takeGo f l).1.contains n then (remL (GS.takeGo f l).1 n, (GS.takeGo f l).2 ++ [n]) else GS.takeGo f l
  | [], f, n => by
    show GS.takeGo f [n] = if f.contains n then (remL f n, [n]) else (f, [])
    unfold GS.takeGo
    by_cases h : f.contains n = true
    · rw [if_pos h, if_pos h]
      rfl
    · rw [if_neg h, if_neg h]
      rfl
  | y :: l, f, n => by
    rw [List.cons_append]
    by_cases h : f.contains y = true
    · have e1 : ∀ m, GS.takeGo f (y :: m) = ((GS.takeGo (remL f y) m).1, y :: (GS.takeGo (remL f y) m).2) := fun m => by rw [GS.takeGo, if_pos h]
      have ih := takeGo_snoc l (remL f y) n
      simp only [e1]
      by_cases hc : (GS.takeGo (remL f y) l).1.contains n = true
      · rw [if_pos hc] at ih
        rw [ih, if_pos hc]
        rfl
      · rw [if_neg hc] at ih
        rw [ih, if_neg hc]
    · have e1 : ∀ m, GS.takeGo f (y :: m) = GS.takeGo f m := fun m => by rw [GS.takeGo, if_neg h]
      rw [e1, e1]
      exact takeGo_snoc l f n
theorem takeGo_none : ∀ (l f : List Int), (GS.takeGo f l).2 = [] → (GS.takeGo f l).1 = f
  | [], _, _ => rfl
  | y :: l, f, h => by
    unfold GS.takeGo at h ⊢
    split
    · rename_i hc
      rw [if_pos hc] at h
      cases h
    · rename_i hc
      rw [if_neg hc] at h
      exact takeGo_none l f h
theorem aput_aput {κ ν : Type} [DecidableEq κ] (l : List (κ × ν)) (k : κ) (v u : ν) : aput (aput l k v) k u = aput l k u := by
  induction l with
  | nil => simp [aput]
  | cons p l ih =>
    obtain ⟨a, b⟩ := p
    simp only [aput]
    by_cases h : a = k
    · subst h; simp [aput]
    · rw [if_neg h, if_neg h]
      simp only [aput, if_neg h, ih]
theorem take_fl (g : GS) (who : ByteArray) (l : List Int) (hi : g.is who = true) : (g.take who l).2.fl who = (GS.takeGo (g.fl who) l).1 ∧ (g.take who l).2.is who = true := by
  unfold GS.take
  rw [if_pos hi]
  dsimp only
  split
  · rename_i h
    exact ⟨(takeGo_none l _ h).symm, hi⟩
  · unfold GS.fl GS.is
    simp only [aget_aput, if_pos]
    exact ⟨rfl, rfl⟩
theorem take_succ (g : GS) (who : ByteArray) (l : List Int) (hi : g.is who = true) (n : Int) :
    g.take who (l ++ [n]) = if ((g.take who l).2.fl who).contains n then ((g.take who l).1 ++ [n], { (g.take who l).2 with flight := aput (g.take who l).2.flight who (remL ((g.take who l).2.fl who) n) }) else g.take who l := by
  rw [(take_fl g who l hi).1]
  unfold GS.take
  rw [if_pos hi]
  dsimp only
  rw [takeGo_snoc]
  split
  · dsimp only
    rw [if_neg (by simp)]
    split
    · rename_i h
      rw [h]
    · simp only [aput_aput]
  · rfl
set_option maxRecDepth 100000 in
theorem remove_out {w : World} {v : Value} {xs : List Int} (h : Own w v xs) (hr : Ris xs) (hb : xs.length ≤ 1000000000) (n : Int) (hc : xs.contains n = false) :
    Calls Tryz.prog 104 #[v, .int .i64 n] w fun e w' => e = .returned (.tuple #[v, .bool false]) ∧ Only [] w w' := by
  have hB := bsearch_any h.slc hr hb n
  obtain ⟨A, cap, rfl, _, _⟩ := own_form h
  rw [hc] at hB
  have HB := Lib.hid hB
  clear hB hc
  go_enter Tryz.func104, Tryz.ntmps104
  go_wp2_with (go_at_call 102; refine HB.out.mono ?_; rintro e w1 ⟨rfl, ho1⟩)
  go_ret2
  exact ⟨rfl, ho1⟩
section
variable {w : World} {gb fb tb N : Nat} {vw vp va vs : Value} {pf : ByteArray → Value} {g : GS}
/-- What take leaves: the group, and a row of those that were taken. -/
def TakeOut (w : World) (H : List Nat) (gb fb tb : Nat) (r : List Int × GS) (e : Ending) (w' : World) : Prop :=
  ∃ ov vw vp va vs pf, e = .returned ov ∧ Own w' ov r.1 ∧ GAt w' gb fb tb vw vp va vs pf r.2 ∧ Stepped w w' H (hG gb fb tb (rowsOf vw vp va vs pf r.2)) ∧ ∀ b, ov.ownBlock = some b → w.heap.size ≤ b ∧ b ∉ hG gb fb tb (rowsOf vw vp va vs pf r.2)
theorem fv_in {w : World} (h : GAt w gb fb tb vw vp va vs pf g) (who : ByteArray) : ∀ b, (fv pf g who).ownBlock = some b → b ∈ blocksOf (rowsOf vw vp va vs pf g) := fun b hb => by
  unfold fv GS.is at hb
  cases hx : aget g.flight who with
  | none => rw [hx] at hb; cases hb
  | some l =>
    rw [hx] at hb
    refine mem_blocksOf.2 ⟨(pf who, l), ?_, hb⟩
    simp only [rowsOf, List.mem_cons]
    exact .inr (.inr (.inr (.inr (List.mem_map.2 ⟨(who, l), aget_mem hx, rfl⟩))))
theorem take_len {g : GS} (who : ByteArray) (l : List Int) : (g.take who l).1.length ≤ l.length := by
  have h : ∀ (l f : List Int), (GS.takeGo f l).2.length ≤ l.length := by
    intro l
    induction l with
    | nil => intro f; simp [GS.takeGo]
    | cons y l ih =>
      intro f
      unfold GS.takeGo
      split
      · have := ih (remL f y); simp; omega
      · have := ih f; simp; omega
  unfold GS.take
  split
  · exact h l _
  · simp
set_option maxRecDepth 100000 in
set_option maxHeartbeats 2000000 in
theorem take_any (h : GAt w gb fb tb vw vp va vs pf g) (hok : g.Ok N) (hN : N ≤ 10000) (who : ByteArray) {lv : Value} {l : List Int} (hl : Slc w 1 lv l.length (ints l)) (hlb : ∀ b, lv.ownBlock = some b → b ∉ hG gb fb tb (rowsOf vw vp va vs pf g) ∨ l = []) (hll : l.length ≤ 1000000) :
    Calls Tryz.prog 79 #[.pointer (some ⟨gb, 0, none⟩), .string who, lv] w (TakeOut w (hG gb fb tb (rowsOf vw vp va vs pf g)) gb fb tb (g.take who l)) := by
  have HI := Lib.hid (is_any h who)
  obtain ⟨Al, cl, rfl, hln, hlm, hel⟩ := hl.openI
  unfold maxLen at hlm
  cases hi : g.is who with
  | false =>
    have hR : g.take who l = ([], g) := by unfold GS.take; rw [if_neg (by rw [hi]; decide)]
    rw [hR]
    rw [hi] at HI
    clear hel hR hi
    go_enter Tryz.func79, Tryz.ntmps79
    go_wp2_with (go_at_call 23; refine HI.out.mono ?_; rintro e w1 ⟨rfl, rfl⟩)
    go_ret
    exact ⟨_, _, _, _, _, _, rfl, Own.nil _, h, Stepped.refl _ _, fun b hb => by cases hb⟩
  | true =>
    rw [hi] at HI
    obtain ⟨i0, hi0, hz0, hz1, hz2⟩ := info_parts infoI
    obtain ⟨H, hH⟩ : ∃ H, H = hG gb fb tb (rowsOf vw vp va vs pf g) := ⟨_, rfl⟩
    have hltH := h.lt
    rw [← hH] at hlb hltH ⊢
    have HSt0 := Lib.hid (show Stepped w w H (hG gb fb tb (rowsOf vw vp va vs pf g)) by rw [hH]; exact Stepped.refl _ _)
    have HIs := Lib.hid hi
    have htake0 : g.take who [] = ([], g) := by unfold GS.take; rw [if_pos hi]; rfl
    clear hH hi
    go_enter Tryz.func79, Tryz.ntmps79
    go_wp2_with (go_at_call 23; refine HI.out.mono ?_; rintro e w1 ⟨rfl, rfl⟩)
    go_loopw [7, 18] (fun o iv wr => ∃ (i : Nat) (vw' vp' va' vs' : Value) (pf' : ByteArray → Value), i ≤ l.length ∧ iv = .int .i64 i ∧ Own wr o (g.take who (l.take i)).1 ∧ GAt wr gb fb tb vw' vp' va' vs' pf' (g.take who (l.take i)).2 ∧ Stepped w wr H (hG gb fb tb (rowsOf vw' vp' va' vs' pf' (g.take who (l.take i)).2)) ∧ ∀ b, o.ownBlock = some b → w.heap.size ≤ b ∧ b ∉ hG gb fb tb (rowsOf vw' vp' va' vs' pf' (g.take who (l.take i)).2)) (fun _ iv _ => l.length - (intOf iv).toNat)
    case atStart =>
      refine ⟨0, vw, vp, va, vs, pf, Nat.zero_le _, rfl, ?_, ?_, ?_, fun b hb => by cases hb⟩
      · rw [List.take_zero, htake0]
        exact Own.nil _
      · rw [List.take_zero, htake0]
        exact h
      · rw [List.take_zero, htake0]
        exact HSt0.out
    case round =>
      obtain ⟨i, vw', vp', va', vs', pf', hil, rfl, hO, hA, hSt, hob⟩ := hrel
      by_cases hlt : i < l.length
      · obtain ⟨bl, ol, rfl, hbl, hcl⟩ := hel i hlt
        have hts := take_succ g who (l.take i) HIs.out l[i]
        rw [← List.take_succ_eq_append_getElem hlt] at hts
        have hfi := (take_fl g who (l.take i) HIs.out).2
        have hGok := (GS.take_ok hok who (l.take i)).1
        have hol := take_len (g := g) who (l.take i)
        have hol2 : (l.take i).length ≤ 1000000 := by simp; omega
        obtain ⟨n, hn⟩ : ∃ n, n = l[i] := ⟨_, rfl⟩
        obtain ⟨r, hr⟩ : ∃ r, r = g.take who (l.take i) := ⟨_, rfl⟩
        rw [← hn] at hcl hts
        rw [← hr] at hts hO hA hSt hob hfi hGok hol
        obtain ⟨o, G⟩ := r
        dsimp only at hts hO hA hSt hob hfi hGok hol
        have c0 : wr.cell? ⟨bl, ol + i, none⟩ = some (.int .i64 n) := by
          obtain ⟨S, k1, k2⟩ := hSt.only
          exact (k1.cell hbl (fun q => (hlb bl rfl).resolve_right (fun e => by rw [e] at hlt; simp at hlt) (k2 bl q))).trans hcl
        have hFo := hA.fl who
        have hFok := hGok.flOf who
        have hFl := hGok.len hFok
        have hfin := fv_in hA who
        have hlk := flightOf G pf' who
        have c5 : wr.cell? ⟨gb, 5, none⟩ = some (.map (some fb)) := hA.blk.cell 5
        have hmF := hA.flight
        obtain ⟨F, hF⟩ : ∃ F, F = G.fl who := ⟨_, rfl⟩
        rw [← hF] at hts hFo hFok hFl
        obtain ⟨Ao, co, rfl, hao1, hao2⟩ := own_form hO
        clear hn hr hcl hel
        cases hc : F.contains n with
        | false =>
          rw [hc, if_neg (by decide)] at hts
          have hrm := remove_out hFo hFok.ris (by omega) n hc
          obtain ⟨fo, hfo⟩ : ∃ fo, fo = fv pf' G who := ⟨_, rfl⟩
          rw [← hfo] at hrm hlk
          have HRm := Lib.hid hrm
          have HLk := Lib.hid hlk
          have HMF := Lib.hid hmF
          have HTs := Lib.hid hts
          clear hrm hlk hmF hts hc hFo hF hfo hfin
          go_wp2_with (first
            | (refine wpList_lookup_is rfl 57 rfl keyEnc_string Tryz.underlying57 Tryz.underlying9 (zeroInts _) who rfl rfl HMF.out _ HLk.out ?_)
            | (go_at_call 104; refine HRm.out.mono ?_; rintro e w4 ⟨rfl, ho4⟩))
          refine ⟨⟨i + 1, vw', vp', va', vs', pf', hlt, by simp, ?_⟩, by simp [intOf]; omega⟩
          rw [HTs.out]
          exact ⟨hO.only0 ho4, hA.only0 ho4, hSt.then0 ho4, hob⟩
        | true =>
          rw [hc, if_pos rfl] at hts
          have hrm := remove_any hFo hFok.ris (by omega) n
          rw [hc] at hrm
          obtain ⟨fo, hfo⟩ : ∃ fo, fo = fv pf' G who := ⟨_, rfl⟩
          have hput := fun (w4 w5 : World) (v4 : Value) (kr : RowTo wr fo w4 v4 (remL F n)) (k2 : Only [fb] w4 w5) (hm : MapIs Value.string w5 fb (aput (G.flight.map fun p => (p.1, pf' p.1)) who v4)) => hA.putF (who := who) (by rw [← hfo]; exact kr) k2 hm
          rw [← hfo] at hrm hlk hfin
          have hnb : ∀ b, fo.ownBlock = some b → b ≠ gb ∧ b ≠ fb ∧ b ≠ tb := fun b hb => hA.rowne b (hfin b hb)
          have HRm := Lib.hid hrm
          have HLk := Lib.hid hlk
          have HMF := Lib.hid hmF
          have HTs := Lib.hid hts
          have HPut := Lib.hid hput
          have hnet := hA.nef
          have hltA := hA.lt
          have hfS : fb ∉ fo.ownBlock.toList := fun q => (hnb fb (by simpa using q)).2.1 rfl
          have hgS : gb ∉ fo.ownBlock.toList := fun q => (hnb gb (by simpa using q)).1 rfl
          have hob2 : ∀ b, (Value.slice Ao o.length co).ownBlock = some b → b ∉ fo.ownBlock.toList := fun b hb q => (hob b hb).2 (mem_hG.2 (.inr (.inr (.inr (hfin b (by simpa using q))))))
          have hob3 : ∀ b, (Value.slice Ao o.length co).ownBlock = some b → b ≠ fb := fun b hb q => (hob b hb).2 (mem_hG.2 (.inr (.inl q)))
          have hB := hA.blk
          clear hrm hlk hmF hts hc hFo hF hfo hput hfin
          go_wp2_with (first
            | (refine wpList_lookup_is rfl 57 rfl keyEnc_string Tryz.underlying57 Tryz.underlying9 (zeroInts _) who rfl rfl HMF.out _ HLk.out ?_)
            | (go_at_call 104; refine HRm.out.mono ?_; rintro e w4 ⟨v4, rfl, kr4⟩
               have hB4 := kr4.only.blk hB hgS
               have e5 : w4.cell? ⟨gb, 5, none⟩ = some (.map (some fb)) := hB4.cell 5)
            | (refine wpList_update_is rfl 57 rfl keyEnc_string Tryz.underlying57 Tryz.underlying9 who v4 rfl rfl rfl (HMF.out.only kr4.only hfS) ?_; intro w5 hm5 hk5
               have hO5 := (hO.only kr4.only hob2).only hk5 (fun b hb q => hob3 b hb (by simpa using q)))
            | (at_builtin; refine wpList_append_lies _ rfl (.tmp 40) (.tmp 42) 43 rfl 0 3 i0 (.int .i64 0) 1 8 Tryz.underlying43 hi0 hz0 hz1 hz2 rfl (by decide) (.slice Ao o.length co) o.length _ rfl (hO5.only0 ((Only.refl [] w5).alloc _)) ⟨w5.heap.size, 0, none⟩ 1 1 [.int .i64 n] rfl rfl (news_blk (Blk.new w5 3 _)) ?c2 (by decide) ?c3 ?c4 (Nat.zero_le _) _ rfl ?_))
          case c2 => simp [Value.oneCell']
          case c3 => unfold maxLen; omega
          case c4 => omega
          intro g6 cap6 w6 hown6 hgrow6 hlie6 hg6
          obtain ⟨h5, st5⟩ := HPut.out w4 w5 v4 kr4 hk5 hm5
          have hOut : Only (Value.slice Ao o.length co).ownBlock.toList w5 w6 := (((Only.refl [] w5).alloc _).of_nil).grown hgrow6 (fun b hb => .inl (by simp [hb]))
          have hzw : wr.heap.size ≤ w5.heap.size := st5.size
          have hOlt := hO.lt
          have hnotH : ∀ b, (Value.slice Ao o.length co).ownBlock = some b → b ∉ hG gb fb tb (rowsOf vw' vp' va' vs' (fun a => if a = who then v4 else pf' a) { G with flight := aput G.flight who (remL F n) }) := fun b hb q => by
            rcases st5.blk b q with q2 | q2
            · exact (hob b hb).2 q2
            · have := hOlt b hb
              omega
          have h6 := h5.only hOut (fun b hb q => hnotH b (by simpa using q) hb)
          have hlt5 := h5.lt
          have hown7 : Own w6 (.slice (some ⟨g6, 0, none⟩) (o.length + 1) cap6) (o ++ [n]) := by
            unfold Own
            rw [show ints (o ++ [n]) = ints o ++ [.int .i64 n] by simp [ints], List.length_append]
            exact hown6
          have hst6 : Stepped w w6 H (hG gb fb tb (rowsOf vw' vp' va' vs' (fun a => if a = who then v4 else pf' a) { G with flight := aput G.flight who (remL F n) })) := by
            have st := hSt.trans st5
            have hzs := hSt.size
            obtain ⟨⟨S, s1, s2⟩, s3⟩ := st
            exact ⟨⟨S, s1.step hOut (fun b hb => .inr (hob b (by simpa using hb)).1), s2⟩, s3⟩
          have hob6 : ∀ b, (Value.slice (some ⟨g6, 0, none⟩) (o.length + 1) cap6).ownBlock = some b → w.heap.size ≤ b ∧ b ∉ hG gb fb tb (rowsOf vw' vp' va' vs' (fun a => if a = who then v4 else pf' a) { G with flight := aput G.flight who (remL F n) }) := fun b hb => by
            have e : g6 = b := by cases hb; rfl
            subst e
            rcases hlie6 with q | q
            · exact ⟨(hob g6 q).1, hnotH g6 q⟩
            · have hz0 := hSt.size
              have e2 : g6 = w5.heap.size + 1 := by simpa using q
              refine ⟨by omega, fun q2 => ?_⟩
              have := hlt5 g6 q2
              omega
          clear hgrow6 hlie6 hown6 HPut hk5 hm5 kr4
          go_wp2
          refine ⟨⟨i + 1, vw', vp', va', vs', (fun a => if a = who then v4 else pf' a), hlt, by simp, ?_⟩, by simp [intOf]; omega⟩
          rw [HTs.out]
          exact ⟨hown7, h6, hst6, hob6⟩
      · have hie : i = l.length := by omega
        subst hie
        rw [List.take_length] at hO hA hSt hob
        clear hel
        obtain ⟨Ao, co, rfl, _, _⟩ := own_form hO
        go_wp2
        go_ret
        exact ⟨_, _, _, _, _, _, rfl, hO, hA, hSt, hob⟩
end
end Go.Proofs.YthjgplgfcbhihaaGreat

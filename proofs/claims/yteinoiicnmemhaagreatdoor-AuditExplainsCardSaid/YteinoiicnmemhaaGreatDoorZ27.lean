/- Proved here: contracts of functions and plain laws, part 27 of one proof. Conditions: each theorem names its own. -/
import Derived.Test.YteinoiicnmemhaaGreatDoorZ8
import Derived.OrdersIn
import Derived.RangeFuncNested
import Derived.RangeFuncCalls
set_option linter.unusedSimpArgs false
set_option linter.unusedVariables false
namespace Go.Proofs.YteinoiicnmemhaaGreatDoor
section
open Go Go.RowKit Go.Sort
section
variable {P : Program} {md : Region.Mode} {ops : Array Oper} {Q : Exit → Act → World → Prop} {ly n : Nat}
theorem rows_wide {row : String} {args : Array Value} {w : World} {R : Value → World → Prop} (h : Rows P row args w R) : RowsIn (Fence.wide.inRound ly) n P row args w R := fun c cs _ => by
  obtain ⟨v, w', r, s⟩ := h c cs
  exact ⟨v, w', r, stepsIn_wide.2 s⟩
theorem opIn_of {i : Nat} {K K' : Act → World → Prop} {a : Act} {w : World} (hout : ¬ LetsOut Q) (hd : ∀ o : Oper, ops[i]? = some o → ∀ c : Call, o.op ≠ .defer c) (hK : ∀ a w, K a w → K' a w) (h : wpOp P ops Q i K a w) : wpOpIn (Fence.wide.inRound ly) n P ops Q i K' a w := by
  unfold wpOp at h
  unfold wpOpIn
  cases ho : ops[i]? with
  | none =>
    rw [ho] at h
    exact hK _ _ h
  | some o =>
    rw [ho] at h
    dsimp only at h ⊢
    by_cases hw : Region.wanted o (yielded ops a.tmps) = true
    · rw [if_pos hw] at h ⊢
      have h1 := h.resolve_right (fun q => hout q.2)
      refine ⟨fun f _ => trivial, ?_⟩
      rw [Oper.semAt_eq _ _ _ (hd o ho)]
      unfold Oper.wp at h1
      generalize (execOp a.eval o).run P w = r at h1 ⊢
      cases r with
      | ok x w' =>
        cases x with
        | value v => exact hK _ _ h1
        | skip => exact hK _ _ h1
        | defer d => exact hK _ _ h1
        | enter f args =>
          refine ⟨fun q => (by cases q), CallsIn.inRound ly (callsIn_wide.2 (Calls.mono h1 (fun e w'' he => ?_)))⟩
          cases e <;> first | exact hK _ _ he | exact he
        | row row args => exact ⟨fun q => (by cases q), (rows_wide h1).mono (fun v w'' he => hK _ _ he)⟩
        | _ => exact h1.elim
      | halt x w' =>
        cases x <;> first | exact h1 | exact h1.elim
    · rw [if_neg hw] at h ⊢
      exact ⟨fun f _ => trivial, hK _ _ h⟩
theorem anyIn_of (hout : ¬ LetsOut Q) (hd : ∀ (i : Nat) (o : Oper), ops[i]? = some o → ∀ c : Call, o.op ≠ .defer c) : ∀ (fuel : Nat) (listed : Array Bool) (a : Act) (w : World), wpAny P md ops Q fuel listed a w → wpAnyIn (Fence.wide.inRound ly) n P md ops Q fuel listed a w
  | 0, listed, a, w, h => h
  | fuel + 1, listed, a, w, h => ⟨h.1, fun i hi => opIn_of hout (hd i) (fun a w => anyIn_of hout hd fuel _ a w) (h.2 i hi)⟩
def noDefer (ops : Array Oper) : Bool := ops.all fun o => match o.op with | .defer _ => false | _ => true
theorem noDefer_spec {ops : Array Oper} (h : noDefer ops = true) : ∀ (i : Nat) (o : Oper), ops[i]? = some o → ∀ c : Call, o.op ≠ .defer c := fun i o ho c q => by
  have h1 := Array.all_eq_true_iff_forall_mem.1 h o (Array.mem_of_getElem? ho)
  rw [q] at h1
  cases h1
end
section
variable {P : Program} {md : Region.Mode} {C : World → Prop} {Q : Exit → Act → World → Prop} {l : List Oper} {ly n : Nat}
theorem wpIn_region_plan {id : Nat} {a : Act} {w : World} (H T1 T2 : List Nat) (hout : ¬ LetsOut Q) (hnd : noDefer l.toArray = true) (hm : P.follows .mixedOrders = true) (hB : planB .any l.toArray H T1 T2 = true) (hQ : ∀ c d u a w, Q (.panic c) (Act.put a d u) w → Q (.panic c) a w) (hC : C w.drew)
    (h : wpQuiet P l.toArray C (fun a' => wpT1 P l.toArray C Q (opsAt l T1) (fun a w => wpList P l.toArray Q (opsAt l T2) a w) a' w.drew) (opsAt l H) a) : (Code.region id l.toArray true).wpIn (Fence.wide.inRound ly) n P Q a w := by
  simp only [planB, Bool.and_eq_true, decide_eq_true_eq, List.all_eq_true, Bool.or_eq_true, List.contains_iff_mem, Bool.not_eq_true'] at hB
  obtain ⟨⟨hsel, hpl⟩, ⟨hcov, hd1, hd2⟩, hlen, hbe, hhd⟩ := hB
  refine wpIn_region_any hm (anyIn_of hout (noDefer_spec hnd) _ _ _ _ ?_)
  have inv0 : Closed .any l.toArray (Array.replicate l.toArray.size false) := fun j oj _ hl => by rw [getD_replicate_false] at hl; cases hl
  have hd1' : ∀ t ∈ T1 ++ T2, t ∉ H := fun t ht q => by
    have := hd1 t ht
    rw [List.contains_eq_mem, decide_eq_true q] at this
    cases this
  have hd2' : ∀ t ∈ T2, t ∉ T1 := fun t ht q => by
    have := hd2 t ht
    rw [List.contains_eq_mem, decide_eq_true q] at this
    cases this
  have h2 : ∀ t ∈ T2, t ∉ H ∧ t ∉ T1 := fun t ht => ⟨hd1' t (by simp [ht]), hd2' t ht⟩
  have := plan_H (md := .any) (H := H) (T1 := T1) (T := T1 ++ T2) hsel hQ hC (fun listed a hs hl => plan_T1 h2 T1 listed a w.drew (fun t ht => hd1' t (by simp [ht])) hs hl) H _ a (fun h hh => ⟨hh, hpl h hh⟩) hhd h
  rw [hlen] at this
  exact anyP_any hbe (fun i hi => hcov i (List.mem_range.2 hi)) _ _ _ _ inv0 (.inl hC) this
theorem wpIn_region_in {id : Nat} {a : Act} {w : World} (S H T1 T2 : List Nat) (hout : ¬ LetsOut Q) (hnd : noDefer l.toArray = true) (hm : P.follows .mixedOrders = true) (hB : planB .any l.toArray H T1 T2 = true) (hQ : ∀ c d u a w, Q (.panic c) (Act.put a d u) w → Q (.panic c) a w)
    (h : wpQuiet P l.toArray (fun W => ∃ p : Within S w, W = p.W) (fun a' => wpT1 P l.toArray (fun W => ∃ p : Within S w, W = p.W) Q (opsAt l T1) (fun a w => wpList P l.toArray Q (opsAt l T2) a w) a' w.drew) (opsAt l H) a) : (Code.region id l.toArray true).wpIn (Fence.wide.inRound ly) n P Q a w :=
  wpIn_region_plan H T1 T2 hout hnd hm hB hQ ⟨⟨_, (Only.refl S w).drew⟩, rfl⟩ h
end
end
section
open Go Go.RowKit Go.Sort
/-- Reads, forks, early ones. -/
abbrev GStage := List Nat × List (Nat × Nat) × List Nat
section
variable {P : Program} {md : Region.Mode} {C : World → Prop} {Q : Exit → Act → World → Prop} {l : List Oper}
def forksTo (md : Region.Mode) (ops : Array Oper) (S : Array Bool → Bool) : List (Nat × Nat) → Array Bool → Bool
  | [] => S
  | (x, y) :: r => forkTo md ops (forksTo md ops S r) x y
def gTo (md : Region.Mode) (ops : Array Oper) (S : Array Bool → Bool) : List GStage → Array Bool → Bool
  | [] => S
  | (H, F, A) :: r => headTo md ops (forksTo md ops (seqTo md ops (gTo md ops S r) A) F) H
def wpForks (P : Program) (l : List Oper) (C : World → Prop) (Q : Exit → Act → World → Prop) (R : Act → World → Prop) : List (Nat × Nat) → Act → World → Prop
  | [] => R
  | (x, y) :: r => ForkGo P l C Q x y (wpForks P l C Q R r)
def wpG (P : Program) (l : List Oper) (C : World → Prop) (Q : Exit → Act → World → Prop) (K : Act → World → Prop) : List GStage → Act → World → Prop
  | [] => K
  | (H, F, A) :: r => fun a w => wpQuiet P l.toArray C (fun a' => wpForks P l C Q (fun a w => wpT1 P l.toArray C Q (opsAt l A) (wpG P l C Q K r) a w) F a' w) (opsAt l H) a
def fLen : List (Nat × Nat) → Nat → Nat
  | [], n => n
  | _ :: r, n => fLen r n + 1 + 1
def gLen : List GStage → Nat → Nat
  | [], n => n
  | (H, F, A) :: r, n => H.length + fLen F (A.length + gLen r n)
theorem plan_forks {H T1 : List Nat} {n : Nat} {S : Array Bool → Bool} {R : Act → World → Prop} (hR : ∀ listed a w, S listed = true → R a w → AnyP P md l.toArray C Q H T1 n listed a w) :
    ∀ (F : List (Nat × Nat)) (listed : Array Bool) (a : Act) (w : World), (∀ p ∈ F, p.1 ∉ H ∧ p.2 ∉ H) → forksTo md l.toArray S F listed = true → wpForks P l C Q R F a w → AnyP P md l.toArray C Q H T1 (fLen F n) listed a w
  | [], listed, a, w, _, hs, h => hR listed a w hs h
  | (x, y) :: r, listed, a, w, hd, hs, h => by
    obtain ⟨M, m1, m2, m3⟩ := h
    exact plan_fork (S := forksTo md l.toArray S r) (L := M) (fun listed a w hs hM => plan_forks hR r listed a w (fun p hp => hd p (by simp [hp])) hs (m3 a w hM)) x y listed a w (hd (x, y) (by simp)).1 (hd (x, y) (by simp)).2 hs m1 m2
theorem plan_g {H T1 : List Nat} {n : Nat} {S : Array Bool → Bool} {K : Act → World → Prop} (hsel : Region.noSelect l.toArray = true) (hQ : ∀ c d u a w, Q (.panic c) (Act.put a d u) w → Q (.panic c) a w)
    (hK : ∀ listed a w, S listed = true → K a w → AnyP P md l.toArray C Q H T1 n listed a w) :
    ∀ (st : List GStage) (listed : Array Bool) (a : Act) (w : World), (∀ p ∈ st, (∀ h ∈ p.1, h ∈ H ∧ plainAt l.toArray h = true) ∧ (∀ q ∈ p.2.1, q.1 ∉ H ∧ q.2 ∉ H) ∧ ∀ t ∈ p.2.2, t ∉ H) → gTo md l.toArray S st listed = true → wpG P l C Q K st a w →
      AnyP P md l.toArray C Q H T1 (gLen st n) listed a w
  | [], listed, a, w, _, hs, h => hK listed a w hs h
  | (H1, F, A) :: r, listed, a, w, hd, hs, h =>
    plan_Hn (S := forksTo md l.toArray (seqTo md l.toArray (gTo md l.toArray S r) A) F) hsel hQ
      (fun listed a hs h => plan_forks (S := seqTo md l.toArray (gTo md l.toArray S r) A) (fun listed a w hs h => plan_A (S := gTo md l.toArray S r) (fun listed a w hs h => plan_g hsel hQ hK r listed a w (fun p hp => hd p (by simp [hp])) hs h) A listed a w (hd (H1, F, A) (by simp)).2.2 hs h) F listed a w (hd (H1, F, A) (by simp)).2.1 hs h)
      H1 listed a (hd (H1, F, A) (by simp)).1 hs h
def forksL (F : List (Nat × Nat)) : List Nat := F.flatMap fun p => [p.1, p.2]
def gOrder : List GStage → List Nat
  | [] => []
  | (H, F, A) :: r => H ++ (forksL F ++ (A ++ gOrder r))
def gH (st : List GStage) : List Nat := st.flatMap (·.1)
def gT (st : List GStage) : List Nat := st.flatMap fun p => forksL p.2.1 ++ p.2.2
def planG (md : Region.Mode) (ops : Array Oper) (st : List GStage) (T2 : List Nat) : Bool :=
  (Region.noSelect ops && ((gH st).all (plainAt ops) && (gT st).all (fun i => !(gH st).contains i))) &&
    (((List.range ops.size).all (fun i => (gH st).contains i || ((gT st).contains i || T2.contains i)) && T2.all (fun i => !(gH st).contains i && !(gT st).contains i)) &&
      ((gH st).all (fun i => (gOrder st).contains i) && (decide (gLen st T2.length = ops.size) && (behindB md ops (gOrder st) T2 && gTo md ops (seqL md ops T2) st (Array.replicate ops.size false)))))
theorem any_region_g {a : Act} {w : World} (st : List GStage) (T2 : List Nat) (hB : planG .any l.toArray st T2 = true) (hQ : ∀ c d u a w, Q (.panic c) (Act.put a d u) w → Q (.panic c) a w) (hC : C w.drew)
    (h : wpG P l C Q (fun a w => wpList P l.toArray Q (opsAt l T2) a w) st a w.drew) : wpAny P .any l.toArray Q l.toArray.size (Array.replicate l.toArray.size false) a w.drew := by
  simp only [planG, Bool.and_eq_true, decide_eq_true_eq, List.all_eq_true, Bool.or_eq_true, List.contains_iff_mem, Bool.not_eq_true'] at hB
  obtain ⟨⟨hsel, hpl, hd1⟩, ⟨hcov, hd2⟩, hz, hlen, hbe, hst⟩ := hB
  have inv0 : Closed .any l.toArray (Array.replicate l.toArray.size false) := fun j oj _ hl => by rw [getD_replicate_false] at hl; cases hl
  have no : ∀ {L : List Nat} {t : Nat}, L.contains t = false → t ∉ L := fun {L t} h q => by rw [List.contains_eq_mem, decide_eq_true q] at h; cases h
  have := plan_g (C := C) (md := .any) (H := gH st) (T1 := gT st) (S := seqL .any l.toArray T2) hsel hQ
    (fun listed a w hs h => plan_T2 T2 listed a w (fun t ht => ⟨no (hd2 t ht).1, no (hd2 t ht).2⟩) hs h) st _ a w.drew
    (fun p hp => ⟨fun x hx => ⟨List.mem_flatMap.2 ⟨p, hp, hx⟩, hpl x (List.mem_flatMap.2 ⟨p, hp, hx⟩)⟩,
      fun q hq => ⟨no (hd1 q.1 (List.mem_flatMap.2 ⟨p, hp, List.mem_append_left _ (List.mem_flatMap.2 ⟨q, hq, by simp⟩)⟩)), no (hd1 q.2 (List.mem_flatMap.2 ⟨p, hp, List.mem_append_left _ (List.mem_flatMap.2 ⟨q, hq, by simp⟩)⟩))⟩,
      fun t ht => no (hd1 t (List.mem_flatMap.2 ⟨p, hp, List.mem_append_right _ ht⟩))⟩) hst h
  rw [hlen] at this
  exact anyP_anyZ hbe (fun x hx => hz x hx) (fun i hi => by
    rcases hcov i (List.mem_range.2 hi) with q | q | q
    · exact .inl q
    · exact .inr (.inl q)
    · exact .inr (.inr q)) _ _ _ _ inv0 (.inl hC) this
theorem wpIn_region_g {ly n id : Nat} {a : Act} {w : World} (st : List GStage) (T2 : List Nat) (hout : ¬ LetsOut Q) (hnd : noDefer l.toArray = true) (hm : P.follows .mixedOrders = true) (hB : planG .any l.toArray st T2 = true) (hQ : ∀ c d u a w, Q (.panic c) (Act.put a d u) w → Q (.panic c) a w) (hC : C w.drew)
    (h : wpG P l C Q (fun a w => wpList P l.toArray Q (opsAt l T2) a w) st a w.drew) : (Code.region id l.toArray true).wpIn (Fence.wide.inRound ly) n P Q a w := wpIn_region_any hm (anyIn_of hout (noDefer_spec hnd) _ _ _ _ (any_region_g st T2 hB hQ hC h))
variable {K : Act → World → Prop} {a : Act} {w : World} {H A : List Nat} {r : List GStage} {x y : Nat} {T2 : List Nat}
theorem gNext (h : wpQuiet P l.toArray C (fun a' => wpT1 P l.toArray C Q (opsAt l A) (wpG P l C Q K r) a' w) (opsAt l H) a) : wpT1 P l.toArray C Q (opsAt l []) (wpG P l C Q K ((H, [], A) :: r)) a w := h
/-- A part with one fork. -/
theorem gFirstF (h : wpQuiet P l.toArray C (fun a' => ForkGo P l C Q x y (fun a w => wpT1 P l.toArray C Q (opsAt l A) (wpG P l C Q K r) a w) a' w) (opsAt l H) a) : wpG P l C Q K ((H, [(x, y)], A) :: r) a w := h
theorem gEnd (h : wpList P l.toArray Q (opsAt l T2) a w) : wpT1 P l.toArray C Q (opsAt l []) (wpG P l C Q (fun a w => wpList P l.toArray Q (opsAt l T2) a w) []) a w := h
end
end
end Go.Proofs.YteinoiicnmemhaaGreatDoor

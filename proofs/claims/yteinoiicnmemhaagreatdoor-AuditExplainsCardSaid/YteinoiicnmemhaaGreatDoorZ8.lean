/- Proved here: contracts of functions and plain laws, part 8 of one proof. Conditions: each theorem names its own. -/
import Derived.Test.YteinoiicnmemhaaGreatDoorZ2
import Derived.Test.YteinoiicnmemhaaGreatDoorZ6
set_option linter.unusedSimpArgs false
set_option linter.unusedVariables false
namespace Go.Proofs.YteinoiicnmemhaaGreatDoor
section
open Go Go.RowKit Go.Sort
/-! ## what a call keeps: the blocks below a, and those of R -/
structure Keeps (a : World) (R : List Nat) (w w' : World) : Prop where
  ex : ∃ S, Only S w w' ∧ ∀ g ∈ S, a.heap.size ≤ g ∧ g ∉ R
section
variable {a w w' w'' : World} {R R' : List Nat}
theorem Keeps.of0 (h : Only [] w w') : Keeps a R w w' := ⟨[], h, by simp⟩
theorem Keeps.refl (a : World) (R : List Nat) (w : World) : Keeps a R w w := .of0 (Only.refl _ _)
theorem Keeps.trans (h : Keeps a R w w') (k : Keeps a R w' w'') : Keeps a R w w'' := by
  obtain ⟨S, h1, h2⟩ := h
  obtain ⟨T, k1, k2⟩ := k
  refine ⟨S ++ T, (h1.mono (fun g hg => List.mem_append_left _ hg)).trans (k1.mono (fun g hg => List.mem_append_right _ hg)), fun g hg => ?_⟩
  rcases List.mem_append.1 hg with q | q
  · exact h2 g q
  · exact k2 g q
theorem Keeps.then0 (h : Keeps a R w w') (k : Only [] w' w'') : Keeps a R w w'' := h.trans (.of0 k)
theorem Keeps.alloc (h : Keeps a R w w') (o : Obj) : Keeps a R w (w'.alloc o) := h.then0 ((Only.refl _ _).alloc o)
theorem Keeps.drew (h : Keeps a R w w') : Keeps a R w w'.drew := h.then0 (Only.refl _ _).drew
theorem Keeps.size (h : Keeps a R w w') : w.heap.size ≤ w'.heap.size := by
  obtain ⟨S, h1, _⟩ := h
  exact h1.size
theorem Keeps.block (h : Keeps a R w w') {g : Nat} (hl : g < w.heap.size) (hg : g < a.heap.size ∨ g ∈ R) : w'.heap[g]? = w.heap[g]? := by
  obtain ⟨S, h1, h2⟩ := h
  refine h1.block g hl fun q => ?_
  have := h2 g q
  rcases hg with hg | hg
  · omega
  · exact this.2 hg
theorem Keeps.blk (h : Keeps a R w w') {g : Nat} {t : TypeId} {cs : Array Value} (hb : Blk w g t cs) (hg : g < a.heap.size ∨ g ∈ R) : Blk w' g t cs := hb.of_eq (h.block hb.lt hg)
theorem Keeps.cell (h : Keeps a R w w') {p : Addr} (hl : p.block < w.heap.size) (hg : p.block < a.heap.size ∨ p.block ∈ R) : w'.cell? p = w.cell? p := World.cell?_of_block (h.block hl hg)
theorem Keeps.slc (h : Keeps a R w w') {size n : Nat} {v : Value} {cs : List Value} (hs : Slc w size v n cs) (hg : ∀ g, v.ownBlock = some g → g < a.heap.size ∨ g ∈ R) : Slc w' size v n cs :=
  hs.keep h.size fun g h1 h2 => h.block h2 (hg g h1)
/-- A world that a call may leave. -/
structure Kept (a : World) (R : List Nat) (w : World) where
  W : World
  h : Keeps a R w W
instance (a : World) (R : List Nat) (w : World) : Nonempty (Kept a R w) := ⟨⟨w, Keeps.refl a R w⟩⟩
theorem Kept.cell {x : Addr} {v : Value} (hc : w.cell? x = some v) (hn : x.block < a.heap.size ∨ x.block ∈ R) (p : Kept a R w) : p.W.cell? x = some v := (p.h.cell (block_lt_of_cell hc) hn).trans hc
end
/-! ## plans of many parts -/
section
variable {P : Program} {md : Region.Mode} {C : World → Prop} {Q : Exit → Act → World → Prop} {l : List Oper}
def stagesTo (md : Region.Mode) (ops : Array Oper) (S : Array Bool → Bool) : List (List Nat × List Nat) → Array Bool → Bool
  | [], listed => S listed
  | (H, A) :: r, listed => headTo md ops (seqTo md ops (stagesTo md ops S r) A) H listed
def wpStages (P : Program) (l : List Oper) (C : World → Prop) (Q : Exit → Act → World → Prop) (K : Act → World → Prop) : List (List Nat × List Nat) → Act → World → Prop
  | [] => K
  | (H, A) :: r => fun a w => wpQuiet P l.toArray C (fun a' => wpT1 P l.toArray C Q (opsAt l A) (wpStages P l C Q K r) a' w) (opsAt l H) a
def stLen : List (List Nat × List Nat) → Nat → Nat
  | [], n => n
  | (H, A) :: r, n => H.length + (A.length + stLen r n)
theorem plan_stages {H T1 : List Nat} {n : Nat} {S : Array Bool → Bool} {K : Act → World → Prop} (hsel : Region.noSelect l.toArray = true) (hQ : ∀ c d u a w, Q (.panic c) (Act.put a d u) w → Q (.panic c) a w)
    (hK : ∀ listed a w, S listed = true → K a w → AnyP P md l.toArray C Q H T1 n listed a w) :
    ∀ (st : List (List Nat × List Nat)) (listed : Array Bool) (a : Act) (w : World), (∀ p ∈ st, (∀ h ∈ p.1, h ∈ H ∧ plainAt l.toArray h = true) ∧ ∀ t ∈ p.2, t ∉ H) → stagesTo md l.toArray S st listed = true → wpStages P l C Q K st a w →
      AnyP P md l.toArray C Q H T1 (stLen st n) listed a w
  | [], listed, a, w, _, hs, h => hK listed a w hs h
  | (H1, A) :: r, listed, a, w, hd, hs, h =>
    plan_Hn (S := seqTo md l.toArray (stagesTo md l.toArray S r) A) hsel hQ
      (fun listed a hs h => plan_A (S := stagesTo md l.toArray S r) (fun listed a w hs h => plan_stages hsel hQ hK r listed a w (fun p hp => hd p (by simp [hp])) hs h) A listed a w (hd (H1, A) (by simp)).2 hs h)
      H1 listed a (hd (H1, A) (by simp)).1 hs h
def stOrder : List (List Nat × List Nat) → List Nat
  | [] => []
  | (H, A) :: r => H ++ (A ++ stOrder r)
def planS (md : Region.Mode) (ops : Array Oper) (st : List (List Nat × List Nat)) (T2 : List Nat) : Bool :=
  (Region.noSelect ops && ((st.flatMap (·.1)).all (plainAt ops) && (st.flatMap (·.2)).all (fun i => !(st.flatMap (·.1)).contains i))) &&
    (((List.range ops.size).all (fun i => (st.flatMap (·.1)).contains i || ((st.flatMap (·.2)).contains i || T2.contains i)) && T2.all (fun i => !(st.flatMap (·.1)).contains i && !(st.flatMap (·.2)).contains i)) &&
      ((st.flatMap (·.1)).all (fun i => (stOrder st).contains i) && (decide (stLen st T2.length = ops.size) && (behindB md ops (stOrder st) T2 && stagesTo md ops (seqL md ops T2) st (Array.replicate ops.size false)))))
theorem wp_region_stages {id : Nat} {a : Act} {w : World} (st : List (List Nat × List Nat)) (T2 : List Nat) (hm : P.follows .mixedOrders = true) (hB : planS .any l.toArray st T2 = true) (hQ : ∀ c d u a w, Q (.panic c) (Act.put a d u) w → Q (.panic c) a w) (hC : C w.drew)
    (h : wpStages P l C Q (fun a w => wpList P l.toArray Q (opsAt l T2) a w) st a w.drew) : (Code.region id l.toArray true).wp P Q a w := by
  simp only [planS, Bool.and_eq_true, decide_eq_true_eq, List.all_eq_true, Bool.or_eq_true, List.contains_iff_mem, Bool.not_eq_true'] at hB
  obtain ⟨⟨hsel, hpl, hd1⟩, ⟨hcov, hd2⟩, hz, hlen, hbe, hst⟩ := hB
  refine wp_region_any hm ?_
  have inv0 : Closed .any l.toArray (Array.replicate l.toArray.size false) := fun j oj _ hl => by rw [getD_replicate_false] at hl; cases hl
  have no : ∀ {L : List Nat} {t : Nat}, L.contains t = false → t ∉ L := fun {L t} h q => by rw [List.contains_eq_mem, decide_eq_true q] at h; cases h
  have := plan_stages (C := C) (md := .any) (H := st.flatMap (·.1)) (T1 := st.flatMap (·.2)) (S := seqL .any l.toArray T2) hsel hQ
    (fun listed a w hs h => plan_T2 T2 listed a w (fun t ht => ⟨no (hd2 t ht).1, no (hd2 t ht).2⟩) hs h) st _ a w.drew
    (fun p hp => ⟨fun x hx => ⟨List.mem_flatMap.2 ⟨p, hp, hx⟩, hpl x (List.mem_flatMap.2 ⟨p, hp, hx⟩)⟩, fun t ht => no (hd1 t (List.mem_flatMap.2 ⟨p, hp, ht⟩))⟩) hst h
  rw [hlen] at this
  exact anyP_anyZ hbe (fun x hx => hz x hx) (fun i hi => by
    rcases hcov i (List.mem_range.2 hi) with q | q | q
    · exact .inl q
    · exact .inr (.inl q)
    · exact .inr (.inr q)) _ _ _ _ inv0 (.inl hC) this
/-! ## an invariant over all orders -/
def reachB (md : Region.Mode) (ops : Array Oper) (T : List Nat) : Nat → Array Bool → Bool
  | 0, listed => (Region.ready md ops listed).isEmpty && T.all fun t => listed.getD t false
  | f + 1, listed => !(Region.ready md ops listed).isEmpty && (Region.ready md ops listed).all fun i => reachB md ops T f (listed.setIfInBounds i true)
def listedOf (n : Nat) (H : List Nat) : Array Bool := H.foldl (fun a i => a.setIfInBounds i true) (Array.replicate n false)
def planI (md : Region.Mode) (ops : Array Oper) (H T : List Nat) : Bool :=
  (Region.noSelect ops && H.all (plainAt ops)) && (((List.range ops.size).all (fun i => H.contains i || T.contains i) && T.all (fun i => !H.contains i)) &&
    (decide (H.length + T.length = ops.size) && headTo md ops (fun listed => decide (listed = listedOf ops.size H) && reachB md ops T T.length listed) H (Array.replicate ops.size false)))
theorem flag_set {listed : Array Bool} {i : Nat} (h : listed.getD i true = false) (j : Nat) : (listed.setIfInBounds i true).getD j false = (decide (i = j) || listed.getD j false) := by
  have hi : i < listed.size := by
    rcases Nat.lt_or_ge i listed.size with q | q
    · exact q
    · simp [Array.getElem?_eq_none q] at h
  by_cases e : i = j
  · subst e
    simp [hi]
  · simp [e, Array.getElem?_setIfInBounds_ne e]
theorem plan_inv {H T : List Nat} {Inv : Array Bool → Act → World → Prop} (hcov : ∀ i, i < l.length → i ∈ H ∨ i ∈ T) (hd : ∀ t ∈ T, t ∉ H)
    (hstep : ∀ i ∈ T, ∀ listed a w, i ∈ Region.ready md l.toArray listed → Inv listed a w → wpList P l.toArray (CheckQ C Q (Inv (listed.setIfInBounds i true))) (opsAt l [i]) a w)
    (hend : ∀ listed a w, Inv listed a w → (∀ t ∈ T, listed.getD t false = true) → Q .normal a w) :
    ∀ (n : Nat) (listed : Array Bool) (a : Act) (w : World), (∀ h ∈ H, listed.getD h false = true) → reachB md l.toArray T n listed = true → Inv listed a w → AnyP P md l.toArray C Q H T n listed a w
  | 0, listed, a, w, _, hr, h => by
    simp only [reachB, Bool.and_eq_true, List.all_eq_true] at hr
    exact ⟨by simpa using hr.1, hend listed a w h hr.2⟩
  | n + 1, listed, a, w, hH, hr, h => by
    simp only [reachB, Bool.and_eq_true, List.all_eq_true, Bool.not_eq_true'] at hr
    refine ⟨fun q => by rw [q] at hr; simp at hr, fun i hi => ?_⟩
    obtain ⟨hun, o, ho, _⟩ := mem_ready.1 hi
    have ho' : l[i]? = some o := by simpa using ho
    have hiH : i ∉ H := fun q => by
      have := hH i q
      rw [getD_both hun] at this
      cases this
    have hlt : i < l.length := (List.getElem?_eq_some_iff.1 ho').1
    have hiT : i ∈ T := (hcov i hlt).resolve_left hiH
    refine .inr ⟨hiH, ?_⟩
    have hs := hstep i hiT listed a w hi h
    rw [opsAt_cons ho'] at hs
    have hw := wpOp_check (i := i) ho hs
    exact wpOp_mono (fun a' w' h' => ⟨fun _ => h'.1, plan_inv hcov hd hstep hend n _ a' w' (fun x hx => getD_set_true (hH x hx)) (hr.2 i hi) h'.2⟩) hw
theorem listedOf_true {H : List Nat} (hpl : ∀ x ∈ H, plainAt l.toArray x = true) : ∀ h ∈ H, (listedOf l.toArray.size H).getD h false = true := by
  have step : ∀ (L : List Nat) (A : Array Bool) (h : Nat), A.size = l.toArray.size → (h ∈ L ∧ h < l.toArray.size ∨ A.getD h false = true) → (L.foldl (fun a i => a.setIfInBounds i true) A).getD h false = true := by
    intro L
    induction L with
    | nil => intro A h _ q; rcases q with ⟨q, _⟩ | q; cases q; exact q
    | cons x L ih =>
      intro A h hs q
      refine ih _ h (by simpa using hs) ?_
      rcases q with ⟨q, hlt⟩ | q
      · rcases List.mem_cons.1 q with rfl | q
        · right
          simp [hs ▸ hlt]
        · exact .inl ⟨q, hlt⟩
      · exact .inr (getD_set_true q)
  intro h hh
  refine step H _ h (by simp) (.inl ⟨hh, ?_⟩)
  have := hpl h hh
  unfold plainAt at this
  split at this
  · rename_i o ho
    exact (Array.getElem?_eq_some_iff.1 ho).1
  · cases this
/-- The invariant is chosen behind the reads. -/
def InvGo (P : Program) (l : List Oper) (C : World → Prop) (Q : Exit → Act → World → Prop) (H T : List Nat) (a0 : Act) (w0 : World) : Prop :=
  ∃ Inv : Array Bool → Act → World → Prop, Inv (listedOf l.toArray.size H) a0 w0 ∧
    (∀ i ∈ T, ∀ listed a w, i ∈ Region.ready .any l.toArray listed → Inv listed a w → wpList P l.toArray (CheckQ C Q (Inv (listed.setIfInBounds i true))) (opsAt l [i]) a w) ∧
    ∀ listed a w, Inv listed a w → (∀ t ∈ T, listed.getD t false = true) → Q .normal a w
theorem inv_intro {H T : List Nat} {a0 : Act} {w0 : World} (I : Act → Array Bool → Act → World → Prop) (h0 : I a0 (listedOf l.toArray.size H) a0 w0)
    (hstep : ∀ i ∈ T, ∀ listed a w, i ∈ Region.ready .any l.toArray listed → I a0 listed a w → wpList P l.toArray (CheckQ C Q (I a0 (listed.setIfInBounds i true))) (opsAt l [i]) a w)
    (hend : ∀ listed a w, I a0 listed a w → (∀ t ∈ T, listed.getD t false = true) → Q .normal a w) : InvGo P l C Q H T a0 w0 := ⟨I a0, h0, hstep, hend⟩
theorem wp_region_inv2 {id : Nat} {a : Act} {w : World} (H T : List Nat) (hm : P.follows .mixedOrders = true) (hB : planI .any l.toArray H T = true) (hQ : ∀ c d u a w, Q (.panic c) (Act.put a d u) w → Q (.panic c) a w) (hC : C w.drew)
    (h : wpQuiet P l.toArray C (fun a' => InvGo P l C Q H T a' w.drew) (opsAt l H) a) : (Code.region id l.toArray true).wp P Q a w := by
  simp only [planI, Bool.and_eq_true, decide_eq_true_eq, List.all_eq_true, Bool.or_eq_true, List.contains_iff_mem, Bool.not_eq_true'] at hB
  obtain ⟨⟨hsel, hpl⟩, ⟨hcov, hd1⟩, hlen, hhd⟩ := hB
  refine wp_region_any hm ?_
  have inv0 : Closed .any l.toArray (Array.replicate l.toArray.size false) := fun j oj _ hl => by rw [getD_replicate_false] at hl; cases hl
  have no : ∀ {L : List Nat} {t : Nat}, L.contains t = false → t ∉ L := fun {L t} h q => by rw [List.contains_eq_mem, decide_eq_true q] at h; cases h
  have hl0 := listedOf_true (l := l) hpl
  have := plan_Hn (C := C) (md := .any) (H := H) (T1 := T) (n := T.length) (S := fun listed => decide (listed = listedOf l.toArray.size H) && reachB .any l.toArray T T.length listed) (L := fun a' => InvGo P l C Q H T a' w.drew) (w := w.drew) hsel hQ
    (fun listed a hs h => by
      simp only [Bool.and_eq_true, decide_eq_true_eq] at hs
      obtain ⟨rfl, hs⟩ := hs
      obtain ⟨Inv, h0, hstep, hend⟩ := h
      exact plan_inv (C := C) (fun i hi => hcov i (by simpa using hi)) (fun t ht => no (hd1 t ht)) hstep hend T.length _ a w.drew hl0 hs h0) H _ a (fun h hh => ⟨hh, hpl h hh⟩) hhd h
  rw [hlen] at this
  exact anyP_any (T2 := []) rfl (fun i hi => by
    rcases hcov i (List.mem_range.2 hi) with q | q
    · exact .inl q
    · exact .inr (.inl q)) _ _ _ _ inv0 (.inl hC) this
/-- What a ready operation tells of the flags. -/
theorem ready_dep {listed : Array Bool} {i : Nat} (hr : i ∈ Region.ready md l.toArray listed) (j : Nat) (hw : Region.waitsFor md l.toArray i j = true) : listed.getD j false = true := by
  obtain ⟨oj, hoj, e, he, hb, hon⟩ := Region.waitsFor_spec hw
  obtain ⟨_, o', ho', hall⟩ := mem_ready.1 hr
  have : o' = oj := Option.some.inj (ho'.symm.trans hoj)
  subst this
  rw [← hon]; exact hall e he hb
theorem ready_self {listed : Array Bool} {i : Nat} (hr : i ∈ Region.ready md l.toArray listed) : listed.getD i false = false ∧ listed.getD i true = false := ⟨getD_both (mem_ready.1 hr).1, (mem_ready.1 hr).1⟩
/-- Behind an early operation: the class Kept. -/
theorem check_kept {a0 : World} {R : List Nat} {w w' : World} {K : Act → World → Prop} {a : Act} (hO : Keeps a0 R w w') (h : K a w') : CheckQ (fun W => ∃ p : Kept a0 R w, W = p.W) Q K .normal a w' := ⟨⟨⟨w', hO⟩, rfl⟩, h⟩
end
end
section
open Go Go.RowKit Go.Sort
section
variable {P : Program} {md : Region.Mode} {C : World → Prop} {Q : Exit → Act → World → Prop} {l : List Oper}
def forkTo (md : Region.Mode) (ops : Array Oper) (S : Array Bool → Bool) (x y : Nat) (listed : Array Bool) : Bool :=
  (decide (Region.ready md ops listed = [x, y]) || decide (Region.ready md ops listed = [y, x])) && (seqTo md ops S [y] (listed.setIfInBounds x true) && seqTo md ops S [x] (listed.setIfInBounds y true))
theorem plan_fork {H T1 : List Nat} {n : Nat} {S : Array Bool → Bool} {L : Act → World → Prop} (hL : ∀ listed a w, S listed = true → L a w → AnyP P md l.toArray C Q H T1 n listed a w)
    (x y : Nat) (listed : Array Bool) (a : Act) (w : World) (hx : x ∉ H) (hy : y ∉ H) (hs : forkTo md l.toArray S x y listed = true) (h1 : wpT1 P l.toArray C Q (opsAt l [x, y]) L a w) (h2 : wpT1 P l.toArray C Q (opsAt l [y, x]) L a w) :
    AnyP P md l.toArray C Q H T1 (n + 1 + 1) listed a w := by
  simp only [forkTo, Bool.and_eq_true, Bool.or_eq_true, decide_eq_true_eq] at hs
  obtain ⟨hr, s1, s2⟩ := hs
  have hmem : ∀ i, i ∈ Region.ready md l.toArray listed ↔ i = x ∨ i = y := fun i => by
    rcases hr with q | q
    · rw [q]; simp
    · rw [q]; simp [or_comm]
  have step : ∀ u v, u ∉ H → v ∉ H → u ∈ Region.ready md l.toArray listed → seqTo md l.toArray S [v] (listed.setIfInBounds u true) = true → wpT1 P l.toArray C Q (opsAt l [u, v]) L a w →
      (u ∈ H ∧ ∃ o v', l.toArray[u]? = some o ∧ YieldsS P l.toArray C o v' a ∧ AnyP P md l.toArray C Q H T1 (n + 1) (listed.setIfInBounds u true) (a.put o.dst v') w) ∨
      (u ∉ H ∧ wpOp P l.toArray Q u (fun a' w' => (u ∈ T1 → C w') ∧ AnyP P md l.toArray C Q H T1 (n + 1) (listed.setIfInBounds u true) a' w') a w) := by
    intro u v hu hv hmu hs hh
    obtain ⟨_, o, ho, _⟩ := mem_ready.1 hmu
    have ho' : l[u]? = some o := by simpa using ho
    rw [opsAt_cons ho'] at hh
    refine .inr ⟨hu, ?_⟩
    have hw := wpOp_check (i := u) (by simpa using ho') hh
    refine wpOp_mono (fun a' w' h' => ⟨fun _ => h'.1, ?_⟩) hw
    have := plan_A (H := H) (T1 := T1) hL [v] (listed.setIfInBounds u true) a' w' (by simpa using hv) hs h'.2
    rwa [List.length_singleton, Nat.add_comm] at this
  refine ⟨fun q => by (rcases hr with r | r <;> rw [r] at q <;> cases q), fun i hi => ?_⟩
  rcases (hmem i).1 hi with rfl | rfl
  · exact step i y hx hy hi s1 h1
  · exact step i x hy hx hi s2 h2
/-- What the two early ones lead to, in either order; and what follows. -/
def ForkGo (P : Program) (l : List Oper) (C : World → Prop) (Q : Exit → Act → World → Prop) (x y : Nat) (R : Act → World → Prop) (a0 : Act) (w0 : World) : Prop :=
  ∃ M : Act → World → Prop, wpT1 P l.toArray C Q (opsAt l [x, y]) M a0 w0 ∧ wpT1 P l.toArray C Q (opsAt l [y, x]) M a0 w0 ∧ ∀ a w, M a w → R a w
theorem fork_intro {x y : Nat} {R : Act → World → Prop} {a0 : Act} {w0 : World} (M : Act → Act → World → Prop) (h1 : wpT1 P l.toArray C Q (opsAt l [x, y]) (M a0) a0 w0) (h2 : wpT1 P l.toArray C Q (opsAt l [y, x]) (M a0) a0 w0)
    (h3 : ∀ a w, M a0 a w → R a w) : ForkGo P l C Q x y R a0 w0 := ⟨M a0, h1, h2, h3⟩
def planF (md : Region.Mode) (ops : Array Oper) (H : List Nat) (x y : Nat) (T1 T2 : List Nat) : Bool :=
  (Region.noSelect ops && H.all (plainAt ops)) && (((List.range ops.size).all (fun i => H.contains i || ((x :: y :: T1).contains i || T2.contains i)) && ((x :: y :: (T1 ++ T2)).all (fun i => !H.contains i) && T2.all (fun i => !(x :: y :: T1).contains i))) &&
    (decide (H.length + ((T1 ++ T2).length + 1 + 1) = ops.size) && (behindB md ops (H ++ (x :: y :: T1)) T2 && headTo md ops (forkTo md ops (seqL md ops (T1 ++ T2)) x y) H (Array.replicate ops.size false))))
theorem wp_region_fork {id : Nat} {a : Act} {w : World} (S H : List Nat) (x y : Nat) (T1 T2 : List Nat) (hm : P.follows .mixedOrders = true) (hB : planF .any l.toArray H x y T1 T2 = true) (hQ : ∀ c d u a w, Q (.panic c) (Act.put a d u) w → Q (.panic c) a w)
    (h : wpQuiet P l.toArray (fun W => ∃ p : Within S w, W = p.W) (fun a' => ForkGo P l (fun W => ∃ p : Within S w, W = p.W) Q x y (wpT1 P l.toArray (fun W => ∃ p : Within S w, W = p.W) Q (opsAt l T1) (fun a w => wpList P l.toArray Q (opsAt l T2) a w)) a' w.drew) (opsAt l H) a) : (Code.region id l.toArray true).wp P Q a w := by
  simp only [planF, Bool.and_eq_true, decide_eq_true_eq, List.all_eq_true, Bool.or_eq_true, List.contains_iff_mem, Bool.not_eq_true'] at hB
  obtain ⟨⟨hsel, hpl⟩, ⟨hcov, hd1, hd2⟩, hlen, hbe, hhd⟩ := hB
  refine wp_region_any hm ?_
  have inv0 : Closed .any l.toArray (Array.replicate l.toArray.size false) := fun j oj _ hl => by rw [getD_replicate_false] at hl; cases hl
  have hd1' : ∀ t ∈ x :: y :: (T1 ++ T2), t ∉ H := fun t ht q => by
    have := hd1 t ht
    rw [List.contains_eq_mem, decide_eq_true q] at this
    cases this
  have hd2' : ∀ t ∈ T2, t ∉ x :: y :: T1 := fun t ht q => by
    have := hd2 t ht
    rw [List.contains_eq_mem, decide_eq_true q] at this
    cases this
  have h2 : ∀ t ∈ T2, t ∉ H ∧ t ∉ x :: y :: T1 := fun t ht => ⟨hd1' t (by simp [ht]), hd2' t ht⟩
  have := plan_Hn (C := fun W => ∃ p : Within S w, W = p.W) (md := .any) (H := H) (T1 := x :: y :: T1) (S := forkTo .any l.toArray (seqL .any l.toArray (T1 ++ T2)) x y) hsel hQ
    (fun listed a hs hl => by
      obtain ⟨M, m1, m2, m3⟩ := hl
      exact plan_fork (S := seqL .any l.toArray (T1 ++ T2)) (L := M) (fun listed a w hs hM => plan_T1 h2 T1 listed a w (fun t ht => hd1' t (by simp [ht])) hs (m3 a w hM)) x y listed a w.drew (hd1' x (by simp)) (hd1' y (by simp)) hs m1 m2) H _ a (fun h hh => ⟨hh, hpl h hh⟩) hhd h
  rw [hlen] at this
  exact anyP_anyZ hbe (fun x hx => by simp [hx]) (fun i hi => by
    rcases hcov i (List.mem_range.2 hi) with q | q | q
    · exact .inl q
    · exact .inr (.inl q)
    · exact .inr (.inr q)) _ _ _ _ inv0 (.inl ⟨⟨_, (Only.refl S w).drew⟩, rfl⟩) this
end
end
end Go.Proofs.YteinoiicnmemhaaGreatDoor

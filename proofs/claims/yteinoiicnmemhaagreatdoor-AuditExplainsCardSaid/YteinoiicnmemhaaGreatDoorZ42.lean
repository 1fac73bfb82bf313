/- Proved here: contracts of functions and plain laws, part 42 of one proof. Conditions: each theorem names its own. -/
import Derived.Test.YteinoiicnmemhaaGreatDoorZ15
import Derived.Test.YteinoiicnmemhaaGreatDoorZ19
import Derived.Test.YteinoiicnmemhaaGreatDoorZ20
import Derived.Test.YteinoiicnmemhaaGreatDoorZ41
set_option linter.unusedSimpArgs false
set_option linter.unusedVariables false
namespace Go.Proofs.YteinoiicnmemhaaGreatDoor
section
open Go.RowKit Go Go.Sort
structure ReqV where
  x : CmdV
  read : Bool
  all : Bool
  fr : Int
  n : Int
  back : Bool
def ReqV.cells (q : ReqV) : List Value := [.int .i64 q.x.c.kind, .int .i64 q.x.c.time, .string q.x.c.stream, .int .i64 q.x.c.expected, q.x.ev, .int .i64 q.x.c.mt.maxCount, .int .i64 q.x.c.mt.maxAge, .int .i64 q.x.c.mt.before, .bool q.read, .bool q.all, .int .i64 q.fr, .int .i64 q.n, .bool q.back]
structure DoneV where
  nd : Int
  id : Int
  req : ReqV
  rid : Int
  place : Int
  ans : Ans
  pg : PageR
  pv : Value
  asked : Int
  answered : Int
def sameELQ : List EventR → List EventR → Bool
  | [], [] => true
  | x :: l, y :: m => sameEQ x y && sameELQ l m
  | _, _ => false
theorem sameELQ_refl : ∀ l : List EventR, sameELQ l l = true
  | [] => rfl
  | x :: l => by
    have : sameEQ x x = true := by simp [sameEQ, sameFQ]
    show (sameEQ x x && sameELQ l l) = true
    rw [this, sameELQ_refl l]
    rfl
theorem sameELQ_drop {l m : List EventR} {k : Nat} (h1 : k < l.length) (h2 : k < m.length) : sameELQ (l.drop k) (m.drop k) = (sameEQ l[k] m[k] && sameELQ (l.drop (k + 1)) (m.drop (k + 1))) := by
  rw [List.drop_eq_getElem_cons h1, List.drop_eq_getElem_cons h2]
  rfl
theorem sameELQ_len : ∀ (l m : List EventR), l.length ≠ m.length → sameELQ l m = false
  | [], [], h => absurd rfl h
  | [], _ :: _, _ => rfl
  | _ :: _, [], _ => rfl
  | x :: l, y :: m, h => by
    simp only [sameELQ, sameELQ_len l m (by simpa using h), Bool.and_false]
def sameCQ (a b : Cmd) : Bool := decide (a.kind = b.kind) && decide (a.time = b.time) && decide (a.stream.toList = b.stream.toList) && decide (a.expected = b.expected) && decide (a.mt = b.mt) && sameELQ a.events b.events
def sameC0 (a b : Cmd) : Bool := sameCQ { a with time := 0 } { b with time := 0 }
def samePQ (p q : PageR) : Bool := decide (p.next = q.next) && (p.isEnd == q.isEnd) && sameLQ p.events q.events
def readQ (s : MS) (q : ReqV) : PageR × Int := if q.all then pageBy StoredR.position s.seenAll q.fr q.n q.back else s.readP q.x.c.stream q.fr q.n q.back
def rightF (s : MS) (c : Cmd) (a : Ans) (d : DoneV) : Bool :=
  if d.req.read then decide (c.kind = 4) && decide (({ a with err := (readQ s d.req).2 } : Ans) = d.ans) && samePQ (readQ s d.req).1 d.pg
  else sameC0 c d.req.x.c && decide (a = d.ans)
/-- The last answer that is told of a place. -/
def atD (l : List DoneV) (k : Int) : Option DoneV := l.foldl (fun o d => if d.place = k then some d else o) none
def pairF (a b : DoneV) : Bool := decide (a.place = b.place) || (decide (a.answered < b.asked) && decide (b.place < a.place))
def OrderedP (l : List DoneV) : Prop := ∀ i j (hi : i < l.length) (hj : j < l.length), i ≠ j → pairF l[i] l[j] = false
def toldF (l : List DoneV) : List DoneV := l.filter (fun d => decide (0 ≤ d.place))
def RightAt (es : List EntV) (k : Nat) (h : k < es.length) (d : DoneV) : Prop := rightF (runE MS.new (es.take (k + 1))) es[k].x.c ((runE MS.new (es.take k)).do es[k].x.c).1 d = true
structure ExplainP (es : List EntV) (ds : List DoneV) : Prop where
  inside : ∀ d ∈ ds, d.place < es.length
  right : ∀ k (h : k < es.length) d, atD (toldF ds) k = some d → RightAt es k h d
  ord : OrderedP (toldF ds)
open Classical in
noncomputable def orderedF (l : List DoneV) : Bool := decide (OrderedP l)
open Classical in
noncomputable def explainF (es : List EntV) (ds : List DoneV) : Bool := decide (ExplainP es ds)
open Classical in
theorem orderedF_true {l : List DoneV} (h : OrderedP l) : orderedF l = true := by unfold orderedF; exact decide_eq_true h
open Classical in
theorem orderedF_false {l : List DoneV} (h : ¬ OrderedP l) : orderedF l = false := by unfold orderedF; exact decide_eq_false h
open Classical in
theorem explainF_true {es : List EntV} {ds : List DoneV} (h : ExplainP es ds) : explainF es ds = true := by unfold explainF; exact decide_eq_true h
open Classical in
theorem explainF_false {es : List EntV} {ds : List DoneV} (h : ¬ ExplainP es ds) : explainF es ds = false := by unfold explainF; exact decide_eq_false h
theorem atD_snoc (l : List DoneV) (d : DoneV) (k : Int) : atD (l ++ [d]) k = if d.place = k then some d else atD l k := by
  unfold atD
  rw [List.foldl_append]
  rfl
theorem atD_go (k : Int) : ∀ (l : List DoneV) (o : Option DoneV) (d : DoneV), l.foldl (fun o d => if d.place = k then some d else o) o = some d → (d ∈ l ∧ d.place = k) ∨ o = some d
  | [], o, d, h => .inr h
  | x :: l, o, d, h => by
    rcases atD_go k l _ d h with q | q
    · exact .inl ⟨List.mem_cons_of_mem _ q.1, q.2⟩
    · dsimp only at q
      split at q
      · rename_i y
        injection q with q
        subst q
        exact .inl ⟨List.mem_cons_self, y⟩
      · exact .inr q
theorem atD_mem {l : List DoneV} {k : Int} {d : DoneV} (h : atD l k = some d) : d ∈ l ∧ d.place = k := (atD_go k l none d h).resolve_right (by simp)
theorem atD_some {l : List DoneV} {k : Int} : ∀ {d : DoneV}, d ∈ l → d.place = k → ∃ d', atD l k = some d' := by
  have go : ∀ (l : List DoneV) (o : Option DoneV), ((∃ d ∈ l, d.place = k) ∨ o.isSome = true) → ∃ d', l.foldl (fun o d => if d.place = k then some d else o) o = some d' := by
    intro l
    induction l with
    | nil =>
      intro o h
      rcases h with ⟨d, hd, _⟩ | h
      · cases hd
      · exact Option.isSome_iff_exists.1 h
    | cons x l ih =>
      intro o h
      refine ih _ ?_
      rcases h with ⟨d, hd, hp⟩ | h
      · rcases List.mem_cons.1 hd with rfl | hd
        · exact .inr (by dsimp only; rw [if_pos hp]; rfl)
        · exact .inl ⟨d, hd, hp⟩
      · right
        dsimp only
        split
        · rfl
        · exact h
  intro d hd hp
  exact go l none (.inl ⟨d, hd, hp⟩)
theorem toldF_snoc (l : List DoneV) (d : DoneV) : toldF (l ++ [d]) = if 0 ≤ d.place then toldF l ++ [d] else toldF l := by
  unfold toldF
  rw [List.filter_append]
  by_cases h : 0 ≤ d.place
  · rw [if_pos h]; simp [h]
  · rw [if_neg h]; simp [h]
theorem mem_told {l : List DoneV} {d : DoneV} : d ∈ toldF l ↔ d ∈ l ∧ 0 ≤ d.place := by
  unfold toldF
  rw [List.mem_filter]
  simp
/-! ## entries with their answers -/
structure LayOk (es : List EntV) (ds : List DoneV) : Prop where
  len : es.length = ds.length
  place : ∀ k (h : k < ds.length), ds[k].place = (k : Int)
  right : ∀ k (h : k < ds.length), RightAt es k (by omega) ds[k]
  asc : ∀ j k (hj : j < k) (h : k < ds.length), ds[j].answered < ds[k].asked
  self : ∀ k (h : k < ds.length), ds[k].asked < ds[k].answered
theorem lay_nil : LayOk [] [] := ⟨rfl, fun k h => by simp at h, fun k h => by simp at h, fun j k _ h => by simp at h, fun k h => by simp at h⟩
theorem RightAt.take {es : List EntV} {e : EntV} {k : Nat} {h : k < es.length} {d : DoneV} (q : RightAt es k h d) : RightAt (es ++ [e]) k (by simp; omega) d := by
  unfold RightAt at q ⊢
  rw [List.take_append_of_le_length (by omega), List.take_append_of_le_length (by omega), List.getElem_append_left h]
  exact q
theorem LayOk.snoc {es : List EntV} {ds : List DoneV} (h : LayOk es ds) {e : EntV} {d : DoneV} (hp : d.place = (ds.length : Int)) (hr : rightF ((runE MS.new es).do e.x.c).2 e.x.c ((runE MS.new es).do e.x.c).1 d = true)
    (ha : ∀ y ∈ ds, y.answered < d.asked) (hs : d.asked < d.answered) : LayOk (es ++ [e]) (ds ++ [d]) := by
  have hl := h.len
  refine ⟨by simp [hl], fun k hk => ?_, fun k hk => ?_, fun j k hj hk => ?_, fun k hk => ?_⟩
  · by_cases q : k < ds.length
    · rw [List.getElem_append_left q]; exact h.place k q
    · have : k = ds.length := by simp at hk; omega
      subst this
      simp [hp]
  · by_cases q : k < ds.length
    · rw [List.getElem_append_left q]
      exact (h.right k q).take
    · have : k = ds.length := by simp at hk; omega
      subst this
      unfold RightAt
      rw [List.getElem_append_right (by omega), List.getElem_append_right (by omega)]
      simp only [hl, Nat.sub_self, List.getElem_cons_zero]
      rw [← hl, List.take_of_length_le (by simp), List.take_append_of_le_length (by omega), List.take_of_length_le (by omega)]
      have : runE MS.new (es ++ [e]) = ((runE MS.new es).do e.x.c).2 := by unfold runE; rw [List.foldl_append]; rfl
      rw [this]
      exact hr
  · by_cases q : k < ds.length
    · rw [List.getElem_append_left q, List.getElem_append_left (by omega)]; exact h.asc j k hj q
    · have : k = ds.length := by simp at hk; omega
      subst this
      rw [List.getElem_append_left hj]
      simpa using ha _ (List.getElem_mem hj)
  · by_cases q : k < ds.length
    · rw [List.getElem_append_left q]; exact h.self k q
    · have : k = ds.length := by simp at hk; omega
      subst this
      simpa using hs
section
variable {es : List EntV} {ds : List DoneV}
theorem LayOk.inj (h : LayOk es ds) {d : DoneV} {k : Nat} (hd : d ∈ ds) (hp : d.place = k) : ∃ hk : k < ds.length, ds[k] = d := by
  obtain ⟨i, hi, rfl⟩ := List.mem_iff_getElem.1 hd
  rw [h.place i hi] at hp
  have : i = k := by omega
  subst this
  exact ⟨hi, rfl⟩
theorem LayOk.pair (h : LayOk es ds) {i j : Nat} (hi : i < ds.length) (hj : j < ds.length) (hne : i ≠ j) : pairF ds[i] ds[j] = false := by
  unfold pairF
  rw [h.place i hi, h.place j hj]
  have h1 : ((i : Int) = j) = False := by simp; omega
  rw [show decide ((i : Int) = j) = false from decide_eq_false (by omega), Bool.false_or, Bool.and_eq_false_iff]
  by_cases q : (j : Int) < i
  · left
    have := h.asc j i (by omega) hi
    have := h.self i hi
    have := h.self j hj
    exact decide_eq_false (by omega)
  · right
    exact decide_eq_false q
/-- Told in whatever order. -/
theorem LayOk.perm (h : LayOk es ds) {l : List DoneV} (hp : l.Perm ds) : ExplainP es l := by
  have hm : ∀ d, d ∈ l → d ∈ ds := fun d q => hp.mem_iff.1 q
  have hpl : ∀ d ∈ ds, 0 ≤ d.place := fun d q => by
    obtain ⟨i, hi, rfl⟩ := List.mem_iff_getElem.1 q
    rw [h.place i hi]
    omega
  have ht : toldF l = l := by
    unfold toldF
    rw [List.filter_eq_self]
    intro d q
    simp [hpl d (hm d q)]
  refine ⟨fun d q => ?_, fun k hk d q => ?_, ?_⟩
  · obtain ⟨i, hi, rfl⟩ := List.mem_iff_getElem.1 (hm d q)
    rw [h.place i hi, h.len]
    omega
  · rw [ht] at q
    obtain ⟨q1, q2⟩ := atD_mem q
    obtain ⟨hk', rfl⟩ := h.inj (hm d q1) q2
    exact h.right k hk'
  · rw [ht]
    have hnd : ds.Nodup := by
      unfold List.Nodup
      rw [List.pairwise_iff_getElem]
      intro i j hi hj hij q
      have h1 := h.place i hi
      have h2 := h.place j hj
      rw [q, h2] at h1
      omega
    have hnl : l.Nodup := hp.nodup_iff.2 hnd
    intro i j hi hj hne
    obtain ⟨i', hi', e1⟩ := List.mem_iff_getElem.1 (hm _ (List.getElem_mem hi))
    obtain ⟨j', hj', e2⟩ := List.mem_iff_getElem.1 (hm _ (List.getElem_mem hj))
    rw [← e1, ← e2]
    refine h.pair hi' hj' (fun q => ?_)
    subst q
    rw [e1] at e2
    unfold List.Nodup at hnl
    rw [List.pairwise_iff_getElem] at hnl
    rcases Nat.lt_or_gt_of_ne hne with q | q
    · exact hnl i j hi hj q e2
    · exact hnl j i hj hi q e2.symm
theorem told_set (h : LayOk es ds) {k : Nat} (hk : k < ds.length) {d : DoneV} (hp : d.place = (k : Int)) : toldF (ds.set k d) = ds.set k d := by
  unfold toldF
  rw [List.filter_eq_self]
  intro y q
  rcases List.mem_or_eq_of_mem_set q with q | rfl
  · obtain ⟨i, hi, rfl⟩ := List.mem_iff_getElem.1 q
    simp [h.place i hi]
  · simp [hp]
/-- One that is spoilt. -/
theorem LayOk.spoilt (h : LayOk es ds) {k : Nat} (hk : k < ds.length) {d : DoneV} (hp : d.place = (k : Int)) (hr : ¬ RightAt es k (by have := h.len; omega) d) : ¬ ExplainP es (ds.set k d) := by
  intro hE
  have ht := told_set h hk hp
  have hmem : d ∈ ds.set k d := List.mem_set hk d
  obtain ⟨d', q⟩ := atD_some hmem hp
  obtain ⟨q1, q2⟩ := atD_mem q
  have : d' = d := by
    rcases List.mem_iff_getElem.1 q1 with ⟨i, hi, e⟩
    rw [List.getElem_set] at e
    split at e
    · exact e.symm
    · exfalso
      rename_i hne
      simp at hi
      rw [← e, h.place i hi] at q2
      omega
  subst this
  exact hr (hE.right k _ d' (by rw [ht]; exact q))
theorem LayOk.outside (h : LayOk es ds) {k : Nat} (hk : k < ds.length) {d : DoneV} (hp : d.place = (es.length : Int)) : ¬ ExplainP es (ds.set k d) := by
  intro hE
  have := hE.inside d (List.mem_set hk d)
  omega
theorem not_ord {l : List DoneV} (hE : ExplainP es l) (ht : toldF l = l) {i j : Nat} (hi : i < l.length) (hj : j < l.length) (hne : i ≠ j) : pairF l[i] l[j] = false := by
  have := hE.ord
  unfold OrderedP at this
  rw [ht] at this
  exact this i j hi hj hne
theorem LayOk.twice (h : LayOk es ds) {j : Nat} (hj : j < ds.length) : ¬ ExplainP es (ds ++ [ds[j]]) := by
  intro hE
  have ht : toldF (ds ++ [ds[j]]) = ds ++ [ds[j]] := by
    unfold toldF
    rw [List.filter_eq_self]
    intro y q
    have : y ∈ ds := by
      rcases List.mem_append.1 q with q | q
      · exact q
      · simp at q; subst q; exact List.getElem_mem hj
    obtain ⟨i, hi, rfl⟩ := List.mem_iff_getElem.1 this
    simp [h.place i hi]
  have := not_ord hE ht (i := j) (j := ds.length) (by simp; omega) (by simp) (by omega)
  rw [List.getElem_append_left hj] at this
  simp [pairF] at this
/-- One that was asked behind another one's answer, and stands ahead of it. -/
theorem LayOk.behind (h : LayOk es ds) {k j : Nat} (hkj : k < j) (hj : j < ds.length) {x y : DoneV} (hx : x.place = (j : Int)) (hy : y.place = (k : Int)) (hlt : x.answered < y.asked) : ¬ ExplainP es ((ds.set j x).set k y) := by
  intro hE
  have ht : toldF ((ds.set j x).set k y) = (ds.set j x).set k y := by
    unfold toldF
    rw [List.filter_eq_self]
    intro z q
    rcases List.mem_or_eq_of_mem_set q with q | rfl
    · rcases List.mem_or_eq_of_mem_set q with q | rfl
      · obtain ⟨i, hi, rfl⟩ := List.mem_iff_getElem.1 q
        simp [h.place i hi]
      · simp [hx]
    · simp [hy]
  have := not_ord hE ht (i := j) (j := k) (by simp; omega) (by simp; omega) (by omega)
  rw [List.getElem_set_ne (by omega), List.getElem_set_self, List.getElem_set_self] at this
  unfold pairF at this
  rw [hx, hy, decide_eq_true hlt, show decide ((k : Int) < j) = true from decide_eq_true (by omega)] at this
  simp at this
/-- One that is at no place. -/
theorem LayOk.nowhere (h : LayOk es ds) {k : Nat} (hk : k < ds.length) {d : DoneV} (hp : d.place < 0) : ExplainP es (ds.set k d) := by
  have hpl : ∀ d ∈ ds, 0 ≤ d.place := fun d q => by
    obtain ⟨i, hi, rfl⟩ := List.mem_iff_getElem.1 q
    rw [h.place i hi]
    omega
  have ht : toldF (ds.set k d) = ds.take k ++ ds.drop (k + 1) := by
    rw [List.set_eq_take_append_cons_drop, if_pos hk]
    unfold toldF
    rw [List.filter_append, List.filter_cons, if_neg (by simp; omega), List.filter_eq_self.2, List.filter_eq_self.2]
    · intro y q
      simp [hpl y (List.mem_of_mem_drop q)]
    · intro y q
      simp [hpl y (List.mem_of_mem_take q)]
  have hm : ∀ y ∈ ds.take k ++ ds.drop (k + 1), y ∈ ds := fun y q => by
    rcases List.mem_append.1 q with q | q
    · exact List.mem_of_mem_take q
    · exact List.mem_of_mem_drop q
  refine ⟨fun y q => ?_, fun i hi y q => ?_, ?_⟩
  · rcases List.mem_or_eq_of_mem_set q with q | rfl
    · obtain ⟨i, hi, rfl⟩ := List.mem_iff_getElem.1 q
      rw [h.place i hi, h.len]
      omega
    · omega
  · rw [ht] at q
    obtain ⟨q1, q2⟩ := atD_mem q
    obtain ⟨hk', rfl⟩ := h.inj (hm _ q1) q2
    exact h.right i hk'
  · rw [ht]
    intro i j hi hj hne
    have hlen : (ds.take k).length = k := by simp; omega
    have get : ∀ i (hi : i < (ds.take k ++ ds.drop (k + 1)).length), ∃ hi' : (if i < k then i else i + 1) < ds.length, (ds.take k ++ ds.drop (k + 1))[i] = ds[if i < k then i else i + 1] := by
      intro i hi
      simp at hi
      by_cases q : i < k
      · simp only [if_pos q]
        refine ⟨by omega, ?_⟩
        rw [List.getElem_append_left (by omega), List.getElem_take]
      · simp only [if_neg q]
        refine ⟨by omega, ?_⟩
        rw [List.getElem_append_right (by omega), List.getElem_drop]
        congr 1
        omega
    obtain ⟨i1, e1⟩ := get i hi
    obtain ⟨j1, e2⟩ := get j hj
    rw [e1, e2]
    refine h.pair i1 j1 ?_
    split <;> split <;> omega
end
end
section
open Go.RowKit Go Go.Sort
set_option maxRecDepth 100000 in
set_option maxHeartbeats 2000000 in
theorem eqEvQ_any {w : World} {v1 v2 : Value} {l m : List EventR} (h1 : Slc w 4 v1 l.length (l.flatMap EventR.cells)) (h2 : Slc w 4 v2 m.length (m.flatMap EventR.cells)) (hbl : l.length ≤ 1000000) (hbm : m.length ≤ 1000000) :
    Calls Tryz.prog 120 #[v1, v2, .func (.func 72) #[] #[]] w fun e w' => e = .returned (.bool (sameELQ l m)) ∧ Only [] w w' := by
  obtain ⟨A1, cap1, rfl, hn1, hc1, hel1⟩ := h1.openE EventR.cells (fun _ => rfl)
  obtain ⟨A2, cap2, rfl, hn2, hc2, hel2⟩ := h2.openE EventR.cells (fun _ => rfl)
  unfold maxLen at hc1 hc2
  clear h1 h2
  by_cases hlm : l.length = m.length
  · have hb : ((l.length : Int) != m.length) = false := by rw [hlm]; simp
    have HLM := Lib.hid hlm
    have hR : Hid (sameELQ l m = sameELQ (l.drop 0) (m.drop 0)) := rfl
    clear hlm
    go_enter Tryz.func120, Tryz.ntmps120
    go_wp2
    go_loopw [17] (fun i wr => ∃ k : Nat, k ≤ l.length ∧ i = .int .i64 k ∧ Hid (sameELQ l m = sameELQ (l.drop k) (m.drop k)) ∧ Only [] w wr) (fun i _ => l.length - (intOf i).toNat)
    case atStart => exact ⟨0, Nat.zero_le _, rfl, hR, Only.refl _ _⟩
    case round =>
      obtain ⟨k, hk, rfl, hT, hO⟩ := hrel
      by_cases hlt : k < l.length
      · have hlt2 : k < m.length := by rw [← HLM.out]; exact hlt
        obtain ⟨b1, off1, rfl, hb1, hcc1⟩ := hel1 k hlt
        obtain ⟨b2, off2, rfl, hb2, hcc2⟩ := hel2 k hlt2
        have hd := sameELQ_drop hlt hlt2
        obtain ⟨x, hx⟩ : ∃ x, x = l[k] := ⟨_, rfl⟩
        obtain ⟨y, hy⟩ : ∃ y, y = m[k] := ⟨_, rfl⟩
        rw [← hx] at hcc1 hd
        rw [← hy] at hcc2 hd
        have c0 : wr.cell? ⟨b1, off1 + k * 4, none⟩ = some (.int .i64 x.id) := (hO.cell hb1 (by simp)).trans (hcc1 0 (by omega))
        have c1 : wr.cell? ⟨b1, off1 + k * 4 + 1, none⟩ = some (.string x.type) := (hO.cell hb1 (by simp)).trans (hcc1 1 (by omega))
        have c2 : wr.cell? ⟨b1, off1 + k * 4 + 2, none⟩ = some (.string x.data) := (hO.cell hb1 (by simp)).trans (hcc1 2 (by omega))
        have c3 : wr.cell? ⟨b1, off1 + k * 4 + 3, none⟩ = some (.float .f64 x.value) := (hO.cell hb1 (by simp)).trans (hcc1 3 (by omega))
        have kk : ∀ (o : Obj) (r : Nat) u, (y.cells)[r]? = some u → r < 4 → (wr.alloc o).cell? ⟨b2, off2 + k * 4 + r, none⟩ = some u := fun o r u hu hr => (((hO.alloc o).cell hb2 (by simp)).trans (hcc2 r hr)).trans hu
        have d0 : ∀ o, (wr.alloc o).cell? ⟨b2, off2 + k * 4, none⟩ = some (.int .i64 y.id) := fun o => kk o 0 _ rfl (by omega)
        have d1 : ∀ o, (wr.alloc o).cell? ⟨b2, off2 + k * 4 + 1, none⟩ = some (.string y.type) := fun o => kk o 1 _ rfl (by omega)
        have d2 : ∀ o, (wr.alloc o).cell? ⟨b2, off2 + k * 4 + 2, none⟩ = some (.string y.data) := fun o => kk o 2 _ rfl (by omega)
        have d3 : ∀ o, (wr.alloc o).cell? ⟨b2, off2 + k * 4 + 3, none⟩ = some (.float .f64 y.value) := fun o => kk o 3 _ rfl (by omega)
        have HS := Lib.hid (fun W => esameQ_any x y W)
        have hsf := stF
        have hki : (k : Int) < m.length := by omega
        clear hcc1 hcc2 hx hy hel1 hel2 kk
        cases hs : sameEQ x y with
        | true =>
          rw [hs] at HS
          have HN : Hid (sameELQ l m = sameELQ (l.drop (k + 1)) (m.drop (k + 1))) := by unfold Hid; rw [hT.out, hd, hs, Bool.true_and]
          clear hd hs hT
          go_wp2_with (go_at_call 72; refine (HS.out _).mono ?_; rintro e w1 ⟨rfl, ho1⟩)
          exact ⟨⟨k + 1, hlt, by simp, HN, ((hO.alloc _).alloc _).trans ho1⟩, by simp [intOf]; omega⟩
        | false =>
          rw [hs] at HS
          have HN : Hid (sameELQ l m = false) := by unfold Hid; rw [hT.out, hd, hs, Bool.false_and]
          clear hd hs hT
          go_wp2_with (go_at_call 72; refine (HS.out _).mono ?_; rintro e w1 ⟨rfl, ho1⟩)
          go_ret
          exact ⟨ret_b (by rw [HN.out]), ((hO.alloc _).alloc _).trans ho1⟩
      · have HN : Hid (sameELQ l m = true) := by
          unfold Hid
          rw [hT.out, List.drop_of_length_le (by omega), List.drop_of_length_le (by have := HLM.out; omega)]
          rfl
        clear hel1 hel2
        go_wp2
        go_ret
        exact ⟨ret_b (by rw [HN.out]), hO⟩
  · have hb : ((l.length : Int) != m.length) = true := by rw [bne_iff_ne]; omega
    have HN : Hid (sameELQ l m = false) := sameELQ_len l m hlm
    clear hlm hel1 hel2
    go_enter Tryz.func120, Tryz.ntmps120
    go_wp2
    go_ret
    exact ⟨ret_b (by rw [HN.out]), Only.refl _ _⟩
set_option maxRecDepth 100000 in
set_option maxHeartbeats 4000000 in
theorem esameC_any (k1 t1 : Int) (s1 : ByteArray) (x1 : Int) (l1 : List EventR) (a1 b1 d1 : Int) (k2 t2 : Int) (s2 : ByteArray) (x2 : Int) (l2 : List EventR) (a2 b2 d2 : Int) {w : World} {v1 v2 : Value}
    (h1 : Slc w 4 v1 l1.length (l1.flatMap EventR.cells)) (h2 : Slc w 4 v2 l2.length (l2.flatMap EventR.cells)) (hb1 : l1.length ≤ 1000000) (hb2 : l2.length ≤ 1000000) :
    Calls Tryz.prog 85 #[.agg #[.int .i64 k1, .int .i64 t1, .string s1, .int .i64 x1, v1, .int .i64 a1, .int .i64 b1, .int .i64 d1], .agg #[.int .i64 k2, .int .i64 t2, .string s2, .int .i64 x2, v2, .int .i64 a2, .int .i64 b2, .int .i64 d2]] w fun e w' =>
      e = .returned (.bool (sameCQ ⟨k1, t1, s1, x1, l1, ⟨a1, b1, d1⟩⟩ ⟨k2, t2, s2, x2, l2, ⟨a2, b2, d2⟩⟩)) ∧ Only [] w w' := by
  have HE := Lib.hid (fun (W : World) (k : Only [] w W) => eqEvQ_any (h1.only0 k) (h2.only0 k) hb1 hb2)
  obtain ⟨A1, c1, rfl⟩ : ∃ A1 c1, v1 = .slice A1 l1.length c1 := by obtain ⟨A1, c1, q, _⟩ := h1.openE EventR.cells (fun _ => rfl); exact ⟨A1, c1, q⟩
  obtain ⟨A2, c2, rfl⟩ : ∃ A2 c2, v2 = .slice A2 l2.length c2 := by obtain ⟨A2, c2, q, _⟩ := h2.openE EventR.cells (fun _ => rfl); exact ⟨A2, c2, q⟩
  clear h1 h2 hb1 hb2
  by_cases e1 : k1 = k2
  · by_cases e2 : t1 = t2
    · by_cases e3 : s1.toList = s2.toList
      · have q3 : (s1.toList == s2.toList) = true := by rw [beq_iff_eq]; exact e3
        by_cases e4 : x1 = x2
        · by_cases e5 : a1 = a2
          · by_cases e6 : b1 = b2
            · by_cases e7 : d1 = d2
              · go_enter Tryz.func85, Tryz.ntmps85
                go_wp2_with (go_at_call 120; refine (HE.out _ (((Only.refl [] w).alloc _).alloc _)).mono ?_; rintro e w1 ⟨rfl, ho1⟩)
                go_ret
                refine ⟨ret_b (by simp [sameCQ, e1, e2, e3, e4, e5, e6, e7]), ?_⟩
                first
                  | exact (((Only.refl [] w).alloc _).alloc _).trans ho1
                  | exact ((Only.refl [] w).alloc _).alloc _
              · go_enter Tryz.func85, Tryz.ntmps85
                go_wp2_with (go_at_call 120; refine (HE.out _ (((Only.refl [] w).alloc _).alloc _)).mono ?_; rintro e w1 ⟨rfl, ho1⟩)
                go_ret
                refine ⟨ret_b (by simp [sameCQ, e1, e2, e3, e4, e5, e6, e7]), ?_⟩
                first
                  | exact (((Only.refl [] w).alloc _).alloc _).trans ho1
                  | exact ((Only.refl [] w).alloc _).alloc _
            · go_enter Tryz.func85, Tryz.ntmps85
              go_wp2_with (go_at_call 120; refine (HE.out _ (((Only.refl [] w).alloc _).alloc _)).mono ?_; rintro e w1 ⟨rfl, ho1⟩)
              go_ret
              refine ⟨ret_b (by simp [sameCQ, e1, e2, e3, e4, e5, e6]), ?_⟩
              first
                | exact (((Only.refl [] w).alloc _).alloc _).trans ho1
                | exact ((Only.refl [] w).alloc _).alloc _
          · go_enter Tryz.func85, Tryz.ntmps85
            go_wp2_with (go_at_call 120; refine (HE.out _ (((Only.refl [] w).alloc _).alloc _)).mono ?_; rintro e w1 ⟨rfl, ho1⟩)
            go_ret
            refine ⟨ret_b (by simp [sameCQ, e1, e2, e3, e4, e5]), ?_⟩
            first
              | exact (((Only.refl [] w).alloc _).alloc _).trans ho1
              | exact ((Only.refl [] w).alloc _).alloc _
        · go_enter Tryz.func85, Tryz.ntmps85
          go_wp2_with (go_at_call 120; refine (HE.out _ (((Only.refl [] w).alloc _).alloc _)).mono ?_; rintro e w1 ⟨rfl, ho1⟩)
          go_ret
          refine ⟨ret_b (by simp [sameCQ, e1, e2, e3, e4]), ?_⟩
          first
            | exact (((Only.refl [] w).alloc _).alloc _).trans ho1
            | exact ((Only.refl [] w).alloc _).alloc _
      · have q3 : (s1.toList == s2.toList) = false := by rw [beq_eq_false_iff_ne]; exact e3
        go_enter Tryz.func85, Tryz.ntmps85
        go_wp2_with (go_at_call 120; refine (HE.out _ (((Only.refl [] w).alloc _).alloc _)).mono ?_; rintro e w1 ⟨rfl, ho1⟩)
        go_ret
        refine ⟨ret_b (by simp [sameCQ, e1, e2, e3]), ?_⟩
        first
          | exact (((Only.refl [] w).alloc _).alloc _).trans ho1
          | exact ((Only.refl [] w).alloc _).alloc _
    · go_enter Tryz.func85, Tryz.ntmps85
      go_wp2_with (go_at_call 120; refine (HE.out _ (((Only.refl [] w).alloc _).alloc _)).mono ?_; rintro e w1 ⟨rfl, ho1⟩)
      go_ret
      refine ⟨ret_b (by simp [sameCQ, e1, e2]), ?_⟩
      first
        | exact (((Only.refl [] w).alloc _).alloc _).trans ho1
        | exact ((Only.refl [] w).alloc _).alloc _
  · go_enter Tryz.func85, Tryz.ntmps85
    go_wp2_with (go_at_call 120; refine (HE.out _ (((Only.refl [] w).alloc _).alloc _)).mono ?_; rintro e w1 ⟨rfl, ho1⟩)
    go_ret
    refine ⟨ret_b (by simp [sameCQ, e1]), ?_⟩
    first
      | exact (((Only.refl [] w).alloc _).alloc _).trans ho1
      | exact ((Only.refl [] w).alloc _).alloc _
theorem sameC0_eq (k1 t1 : Int) (s1 : ByteArray) (x1 : Int) (l1 : List EventR) (a1 b1 d1 : Int) (k2 t2 : Int) (s2 : ByteArray) (x2 : Int) (l2 : List EventR) (a2 b2 d2 : Int) :
    sameC0 ⟨k1, t1, s1, x1, l1, ⟨a1, b1, d1⟩⟩ ⟨k2, t2, s2, x2, l2, ⟨a2, b2, d2⟩⟩ = sameCQ ⟨k1, 0, s1, x1, l1, ⟨a1, b1, d1⟩⟩ ⟨k2, 0, s2, x2, l2, ⟨a2, b2, d2⟩⟩ := rfl
set_option maxRecDepth 100000 in
set_option maxHeartbeats 4000000 in
theorem asame_any (k1 t1 : Int) (s1 : ByteArray) (x1 : Int) (l1 : List EventR) (a1 b1 d1 : Int) (k2 t2 : Int) (s2 : ByteArray) (x2 : Int) (l2 : List EventR) (a2 b2 d2 : Int) {w : World} {v1 v2 : Value}
    (h1 : Slc w 4 v1 l1.length (l1.flatMap EventR.cells)) (h2 : Slc w 4 v2 l2.length (l2.flatMap EventR.cells)) (hb1 : l1.length ≤ 1000000) (hb2 : l2.length ≤ 1000000) :
    Calls Tryz.prog 78 #[.agg #[.int .i64 k1, .int .i64 t1, .string s1, .int .i64 x1, v1, .int .i64 a1, .int .i64 b1, .int .i64 d1], .agg #[.int .i64 k2, .int .i64 t2, .string s2, .int .i64 x2, v2, .int .i64 a2, .int .i64 b2, .int .i64 d2]] w fun e w' =>
      e = .returned (.bool (sameC0 ⟨k1, t1, s1, x1, l1, ⟨a1, b1, d1⟩⟩ ⟨k2, t2, s2, x2, l2, ⟨a2, b2, d2⟩⟩)) ∧ Only [] w w' := by
  rw [sameC0_eq]
  have HE := Lib.hid (fun (W : World) (k : Only [] w W) => esameC_any k1 0 s1 x1 l1 a1 b1 d1 k2 0 s2 x2 l2 a2 b2 d2 (h1.only0 k) (h2.only0 k) hb1 hb2)
  obtain ⟨A1, c1, rfl⟩ : ∃ A1 c1, v1 = .slice A1 l1.length c1 := by obtain ⟨A1, c1, q, _⟩ := h1.openE EventR.cells (fun _ => rfl); exact ⟨A1, c1, q⟩
  obtain ⟨A2, c2, rfl⟩ : ∃ A2 c2, v2 = .slice A2 l2.length c2 := by obtain ⟨A2, c2, q, _⟩ := h2.openE EventR.cells (fun _ => rfl); exact ⟨A2, c2, q⟩
  clear h1 h2 hb1 hb2
  go_enter Tryz.func78, Tryz.ntmps78
  go_wp2_with fail
  refine (HE.out _ (((Only.refl [] w).alloc _).alloc _)).mono ?_
  rintro e w1 ⟨rfl, ho1⟩
  go_wp2_with fail
  go_ret
  exact ⟨rfl, (((Only.refl [] w).alloc _).alloc _).trans ho1⟩
set_option maxRecDepth 100000 in
set_option maxHeartbeats 4000000 in
theorem vsamePage_any (l1 l2 : List StoredR) (n1 n2 : Int) (e1 e2 : Bool) {w : World} {v1 v2 : Value}
    (h1 : Slc w 8 v1 l1.length (l1.flatMap StoredR.cells)) (h2 : Slc w 8 v2 l2.length (l2.flatMap StoredR.cells)) (hb1 : l1.length ≤ 1000000) (hb2 : l2.length ≤ 1000000) :
    Calls Tryz.prog 81 #[.agg #[v1, .int .i64 n1, .bool e1], .agg #[v2, .int .i64 n2, .bool e2]] w fun e w' =>
      e = .returned (.bool (samePQ ⟨l1, n1, e1⟩ ⟨l2, n2, e2⟩)) ∧ Only [] w w' := by
  have HE := Lib.hid (fun (W : World) (k : Only [] w W) => eqStQ_any (h1.only0 k) (h2.only0 k) hb1 hb2)
  obtain ⟨A1, c1, rfl⟩ : ∃ A1 c1, v1 = .slice A1 l1.length c1 := by obtain ⟨A1, c1, q, _⟩ := h1.openE StoredR.cells (fun _ => rfl); exact ⟨A1, c1, q⟩
  obtain ⟨A2, c2, rfl⟩ : ∃ A2 c2, v2 = .slice A2 l2.length c2 := by obtain ⟨A2, c2, q, _⟩ := h2.openE StoredR.cells (fun _ => rfl); exact ⟨A2, c2, q⟩
  clear h1 h2 hb1 hb2
  by_cases q1 : n1 = n2
  · cases e1 <;> cases e2
    · go_enter Tryz.func81, Tryz.ntmps81
      go_wp2_with (go_at_call 32; refine (HE.out _ (((Only.refl [] w).alloc _).alloc _)).mono ?_; rintro e w1 ⟨rfl, ho1⟩)
      go_ret
      refine ⟨ret_b (by simp [samePQ, q1]), ?_⟩
      first
        | exact (((Only.refl [] w).alloc _).alloc _).trans ho1
        | exact ((Only.refl [] w).alloc _).alloc _
    · go_enter Tryz.func81, Tryz.ntmps81
      go_wp2_with (go_at_call 32; refine (HE.out _ (((Only.refl [] w).alloc _).alloc _)).mono ?_; rintro e w1 ⟨rfl, ho1⟩)
      go_ret
      refine ⟨ret_b (by simp [samePQ, q1]), ?_⟩
      first
        | exact (((Only.refl [] w).alloc _).alloc _).trans ho1
        | exact ((Only.refl [] w).alloc _).alloc _
    · go_enter Tryz.func81, Tryz.ntmps81
      go_wp2_with (go_at_call 32; refine (HE.out _ (((Only.refl [] w).alloc _).alloc _)).mono ?_; rintro e w1 ⟨rfl, ho1⟩)
      go_ret
      refine ⟨ret_b (by simp [samePQ, q1]), ?_⟩
      first
        | exact (((Only.refl [] w).alloc _).alloc _).trans ho1
        | exact ((Only.refl [] w).alloc _).alloc _
    · go_enter Tryz.func81, Tryz.ntmps81
      go_wp2_with (go_at_call 32; refine (HE.out _ (((Only.refl [] w).alloc _).alloc _)).mono ?_; rintro e w1 ⟨rfl, ho1⟩)
      go_ret
      refine ⟨ret_b (by simp [samePQ, q1]), ?_⟩
      first
        | exact (((Only.refl [] w).alloc _).alloc _).trans ho1
        | exact ((Only.refl [] w).alloc _).alloc _
  · go_enter Tryz.func81, Tryz.ntmps81
    go_wp2_with (go_at_call 32; refine (HE.out _ (((Only.refl [] w).alloc _).alloc _)).mono ?_; rintro e w1 ⟨rfl, ho1⟩)
    go_ret
    refine ⟨ret_b (by simp [samePQ, q1]), ?_⟩
    first
      | exact (((Only.refl [] w).alloc _).alloc _).trans ho1
      | exact ((Only.refl [] w).alloc _).alloc _
end
section
open Go.RowKit Go Go.Sort
theorem infoPl : (Tryz.prog.info? 128).map (fun i => (i.zero, i.size, i.bytes)) = some (some (.agg #[.pointer none, .pointer none, .slice none 0 0]), 3, 40) := by kernel_rfl
def plC (p : Nat × Nat) : List Value := [.pointer (some ⟨p.1, 0, none⟩), .pointer (some ⟨p.2, 0, none⟩), .slice none 0 0]
/-- A world of nodes that did nothing yet: l's row, and the nodes. -/
structure ClAt (b : Nat) (w : World) (wb : Nat) (v : Value) (ns : List (Nat × Nat)) : Prop where
  blk : ∃ net, Blk w wb 121 #[v, .pointer (some ⟨net, 0, none⟩), .int .i64 0, .int .i64 0, .slice none 0 0, .slice none 0 0]
  row : w.ownsRow b 128 3 v ns.length (ns.flatMap plC)
  ne : ∀ g, v.ownBlock = some g → g ≠ wb
  nod : ∀ p ∈ ns, NodeN w p.1 ∧ p.1 ≠ wb
section
variable {w w' : World} {b wb : Nat} {v : Value} {ns : List (Nat × Nat)}
theorem ClAt.keep0 (h : ClAt b w wb v ns) (k : Only [] w w') : ClAt b w' wb v ns := by
  obtain ⟨⟨net, h1⟩, h2, h3, h4⟩ := h
  exact ⟨⟨net, k.blk h1 (by simp)⟩, own_only h2 k (by simp), h3, fun p hp => ⟨(h4 p hp).1.keep0 k, (h4 p hp).2⟩⟩
theorem blk_ty {w : World} {g : Nat} {t u : TypeId} {cs ds : Array Value} (h : Blk w g t cs) (k : Blk w g u ds) : t = u := by
  have := h.symm.trans k
  injection this with this
  injection this
/-- A node stays while rows of places and worlds turn. -/
theorem NodeN.keepP {S : List Nat} {nb : Nat} (h : NodeN w nb) (k : Only S w w') (hS : ∀ g ∈ S, ∃ t cur, Blk w g t cur ∧ t ≠ 160 ∧ t ≠ 72) : NodeN w' nb := by
  obtain ⟨db, id, nodes, lb, sb, smb, h1, h2⟩ := h
  have hm := h2.map
  refine ⟨db, id, nodes, lb, sb, smb, k.blk h1 (fun q => ?_), h2.only k (fun q => ?_) (fun q => ?_)⟩
  · obtain ⟨t, cur, q1, q2, _⟩ := hS _ q
    exact q2 (blk_ty q1 h1)
  · obtain ⟨t, cur, q1, _, q2⟩ := hS _ q
    exact q2 (blk_ty q1 h2.blk)
  · obtain ⟨t, cur, q1, _⟩ := hS _ q
    exact hm.ne_blk q1 rfl
set_option maxRecDepth 100000 in
theorem wnew_any (w : World) : Calls Tryz.prog 48 #[] w fun e w' => ∃ net, e = .returned (.pointer (some ⟨net, 0, none⟩)) ∧ Only [] w w' := by
  have hmm := @run_makeMap Tryz.prog
  go_enter Tryz.func48, Tryz.ntmps48
  go_wp2
  go_ret
  exact ⟨_, rfl, ((Only.refl [] w).alloc _).alloc _⟩
set_option maxRecDepth 100000 in
set_option maxHeartbeats 4000000 in
theorem cnew2_any (hT : J.Tab w) : Calls Tryz.prog 19 #[.int .i64 2] w fun e w' => ∃ wb v ns, e = .returned (.tuple #[.pointer (some ⟨wb, 0, none⟩), .int .i64 0]) ∧ ClAt w.heap.size w' wb v ns ∧ ns.length = 2 ∧ Only [] w w' := by
  have HW := Lib.hid (fun (W : World) => wnew_any W)
  have HTab := Lib.hid hT
  clear hT
  go_enter Tryz.func19, Tryz.ntmps19
  go_wp2_with fail
  refine (HW.out _).mono ?_
  rintro e w1 ⟨net, rfl, k1⟩
  have hB1 := Blk.new w1 121 #[.slice none 0 0, .pointer (some ⟨net, 0, none⟩), .int .i64 0, .int .i64 0, .slice none 0 0, .slice none 0 0]
  have j1 := (Only.refl [] w1).alloc (.cells #[.slice none 0 0, .pointer (some ⟨net, 0, none⟩), .int .i64 0, .int .i64 0, .slice none 0 0, .slice none 0 0] 121)
  have hz1 := k1.size
  obtain ⟨wb, hwb⟩ : ∃ wb, w1.heap.size = wb := ⟨_, rfl⟩
  rw [hwb] at hB1 hz1
  have HC0 := Lib.hid (show ClAt w.heap.size _ wb (.slice none 0 0) [] from ⟨⟨net, hB1⟩, World.ownsRow_nil _ _ _ _, by simp [Value.ownBlock], by simp⟩)
  have HO0 := Lib.hid (k1.trans j1)
  clear hB1 j1 k1
  go_wp2_with fail
  try rw [hwb]
  clear hwb
  go_loopw [19] (fun iv wr => ∃ (k : Nat) (v : Value) (ns : List (Nat × Nat)), k ≤ 2 ∧ iv = .int .i64 k ∧ Hid (ns.length = k) ∧ Hid (ClAt w.heap.size wr wb v ns) ∧ Hid (Only [] w wr)) (fun iv _ => 2 - (intOf iv).toNat)
  case atStart => exact ⟨0, _, [], by omega, rfl, Lib.hid rfl, HC0, HO0⟩
  case round =>
    obtain ⟨k, v, ns, hk, rfl, hn, hC, hO⟩ := hrel
    by_cases hlt : k < 2
    · have hND := Lib.hid (J.new_any wr (room := 0) (by omega))
      have hki : (k : Int) < 2 := by omega
      have e9 := IntWalk.i64_in ((k : Int) + 1) ⟨by omega, by omega⟩
      go_wp2_with fail
      refine hND.out.mono ?_
      rintro e w2 ⟨rfl, hD, k2⟩
      have HNo := Lib.hid (nopen_new (J.Tab.only HTab.out hO.out) k2 hD ⟨by omega, by omega⟩ rfl (k : Int) 2 (by omega) (by omega) (by omega))
      have hl1 := hD.blk.lt
      clear hD hND
      go_wp2_with fail
      refine HNo.out.mono ?_
      rintro e w3 ⟨nb, lb, sb, smb, rfl, hnb, hBn, hSn, -, -, k3⟩
      have hnl := hBn.lt
      have k23 : Only [] wr w3 := k2.step k3 (fun i hi => by simp at hi; exact .inr (by omega))
      have hC3 := hC.out.keep0 k23
      have hO3 := hO.out.trans k23
      have hNd : NodeN w3 nb := ⟨_, _, _, _, _, _, hBn, hSn⟩
      have hz2 := k2.size
      obtain ⟨⟨net2, hb3⟩, hr3, hne, hnod⟩ := hC3
      have hwl : wb < wr.heap.size := by
        obtain ⟨⟨_, q⟩, _⟩ := hC.out
        exact q.lt
      have hrl := fun g hg => World.ownsRow.lt hr3 g hg
      obtain ⟨Av, cv, rfl, _, _⟩ := own_form hr3
      have hr4 := hr3.alloc (.cells (plC (nb, wr.heap.size + 1)).toArray 128)
      obtain ⟨A, cap, w5, hrun, hown, hO5, hfr⟩ := run_app (P := Tryz.prog) 119 119 w.heap.size 128 (.agg #[.pointer none, .pointer none, .slice none 0 0]) 3 40 Tryz.underlying119 infoPl rfl (by decide) hr4 (slc_new1 (w := w3) (e := 128) (size := 3) (cs := plC (nb, wr.heap.size + 1)) rfl) (by simp [plC, Value.oneCell']) (by have := hn.out; omega) (by have := hn.out; unfold maxLen; omega) (by have := hO3.size; simp; omega)
      have ka := (Only.refl [] w3).alloc (.cells (plC (nb, wr.heap.size + 1)).toArray 128)
      have hb4 := ka.blk hb3 (by simp)
      have hb5 := hO5.blk hb4 (by simp; exact fun q => hne _ q rfl)
      have hc3 := fun i => hb3.cell i
      have hc5 := fun i => hb5.cell i
      have hf5 := fun i => hb5.free i
      have hT5 : ∀ g ∈ (Value.slice Av ns.length cv).ownBlock.toList, ∃ t cur, Blk (w3.alloc (.cells (plC (nb, wr.heap.size + 1)).toArray 128)) g t cur ∧ t ≠ 160 ∧ t ≠ 72 := fun g hg => by
        obtain ⟨cur, q⟩ := own_type hr4 (by simpa using hg)
        exact ⟨_, cur, q, by decide, by decide⟩
      have hlen : (ns ++ [(nb, wr.heap.size + 1)]).length = ns.length + 1 := by simp
      have hFin := fun (kk : Only [wb] w5 (w5.setCell ⟨wb, 0, none⟩ (.slice A (ns.length + 1) cap))) => (show ClAt w.heap.size (w5.setCell ⟨wb, 0, none⟩ (.slice A (ns.length + 1) cap)) wb (.slice A (ns.length + 1) cap) (ns ++ [(nb, wr.heap.size + 1)]) from
        ⟨⟨net2, hb5.set 0 _⟩, by
          rw [hlen, List.flatMap_append]
          refine own_only (by simpa using hown) kk (fun g hg => ?_)
          simp
          rcases hfr g hg with q | q
          · exact hne g q
          · simp at q; omega, fun g hg => by
          rcases hfr g hg with q | q
          · exact hne g q
          · simp at q; omega, fun p hp => by
          have hsb : ∀ g ∈ [wb], ∃ t cur, Blk w5 g t cur ∧ t ≠ 160 ∧ t ≠ 72 := fun g hg => by
            simp at hg; subst hg
            exact ⟨_, _, hb5, by decide, by decide⟩
          rcases List.mem_append.1 hp with q | q
          · exact ⟨(((hnod p q).1.keep0 ka).keepP hO5 hT5).keepP kk hsb, (hnod p q).2⟩
          · simp at q; subst q
            exact ⟨((hNd.keep0 ka).keepP hO5 hT5).keepP kk hsb, by simp; omega⟩⟩)
      have HF := Lib.hid (hFin ((Only.refl _ _).setCell (.inl (by simp)) _))
      have HOF := Lib.hid (show Only [] w (w5.setCell ⟨wb, 0, none⟩ (.slice A (ns.length + 1) cap)) from ((hO3.trans ka).step hO5 (fun i hi => .inr (hrl i (by simpa using hi)).1)).setCell (.inr (by omega)) _)
      have HLen := Lib.hid (show (ns ++ [(nb, wr.heap.size + 1)]).length = k + 1 by rw [hlen, hn.out])
      rw [show (plC (nb, wr.heap.size + 1)).toArray = #[.pointer (some ⟨nb, 0, none⟩), .pointer (some ⟨wr.heap.size + 1, 0, none⟩), .slice none 0 0] from rfl] at hrun
      have HR := Lib.hid hrun
      clear hrun hFin hb3 hb4 hb5 hown hO5 hfr hr3 hr4 hT5 hlen hnod hNd hC hO hO3 hBn hSn hrl ka k2 k3 k23
      go_wp2_with (at_builtin; refine Lib.wpList_append_run _ rfl (.tmp 37) (.tmp 41) 119 119 rfl _ _ rfl rfl _ _ HR.out ?_)
      exact ⟨⟨k + 1, _, _, by omega, by simp, HLen, HF, HOF⟩, by simp [intOf]; omega⟩
    · have hk2 : k = 2 := by omega
      have hge : ¬ (k : Int) < 2 := by omega
      have HFin := Lib.hid (show ns.length = 2 by rw [hn.out, hk2])
      go_wp2_with fail
      go_ret2
      exact ⟨wb, rfl, v, ns, hC.out, HFin.out, hO.out⟩
end
end
section
open Go.RowKit Go Go.Sort
section
variable {w w' : World} {b wb : Nat} {v : Value} {ns : List (Nat × Nat)}
set_option maxRecDepth 100000 in
theorem wis_any (h : ClAt b w wb v ns) (hl : ns.length = 2) (i : Nat) (hi : i ≤ 100) : Calls Tryz.prog 118 #[.pointer (some ⟨wb, 0, none⟩), .int .i64 i] w fun e w' => e = .returned (.bool (decide (i < 2))) ∧ w' = w := by
  obtain ⟨⟨net, h1⟩, h2, h3, h4⟩ := h
  obtain ⟨A, c, rfl, _, _⟩ := own_form h2
  rw [hl] at h1
  have hc := fun i => h1.cell i
  clear h2 h4 h3 h1
  by_cases hlt : i < 2
  · have q1 : decide ((i : Int) ≥ 0) = true := decide_eq_true (by omega)
    have q2 : decide ((i : Int) < 2) = true := decide_eq_true (by omega)
    rw [decide_eq_true hlt]
    clear hlt
    go_enter Tryz.func118, Tryz.ntmps118
    go_wp2
    go_ret
    exact ⟨rfl, rfl⟩
  · have q1 : decide ((i : Int) ≥ 0) = true := decide_eq_true (by omega)
    have q2 : decide ((i : Int) < 2) = false := decide_eq_false (by omega)
    rw [decide_eq_false hlt]
    clear hlt
    go_enter Tryz.func118, Tryz.ntmps118
    go_wp2
    go_ret
    exact ⟨rfl, rfl⟩
set_option maxRecDepth 100000 in
theorem wnode_some (h : ClAt b w wb v ns) (hl : ns.length = 2) (i : Nat) (hi : i < 2) : Calls Tryz.prog 82 #[.pointer (some ⟨wb, 0, none⟩), .int .i64 i] w fun e w' => e = .returned (.pointer (some ⟨(ns[i]'(by omega)).1, 0, none⟩)) ∧ w' = w := by
  have HI := Lib.hid (wis_any h hl i (by omega))
  rw [decide_eq_true hi] at HI
  have hlt : i < ns.length := by omega
  obtain ⟨⟨net, h1⟩, h2, h3, h4⟩ := h
  obtain ⟨A, c, rfl, hnc, hcm, hel⟩ := (Slc.of_own h2).1.openE plC (fun _ => rfl)
  unfold maxLen at hcm
  obtain ⟨g, off, rfl, hg, hcc⟩ := hel i hlt
  have d0 : w.cell? ⟨g, off + i * 3, none⟩ = some (.pointer (some ⟨ns[i].1, 0, none⟩)) := hcc 0 (by omega)
  obtain ⟨q, hq⟩ : ∃ q, ns[i].1 = q := ⟨_, rfl⟩
  rw [hq] at d0
  rw [hq]
  rw [hl] at h1 hnc
  have hc := fun i => h1.cell i
  have hki : (i : Int) < 2 := by omega
  clear h2 h4 h3 h1 hel hcc hq hlt
  go_enter Tryz.func82, Tryz.ntmps82
  go_wp2_with (go_at_call 118; refine HI.out.mono ?_; rintro e w1 ⟨rfl, rfl⟩)
  go_ret
  exact ⟨rfl, rfl⟩
set_option maxRecDepth 100000 in
theorem wnode_none (h : ClAt b w wb v ns) (hl : ns.length = 2) (i : Nat) (hi : 2 ≤ i) (h7 : i ≤ 100) : Calls Tryz.prog 82 #[.pointer (some ⟨wb, 0, none⟩), .int .i64 i] w fun e w' => e = .returned (.pointer none) ∧ w' = w := by
  have HI := Lib.hid (wis_any h hl i h7)
  rw [decide_eq_false (by omega)] at HI
  go_enter Tryz.func82, Tryz.ntmps82
  go_wp2_with (go_at_call 118; refine HI.out.mono ?_; rintro e w1 ⟨rfl, rfl⟩)
  go_ret
  exact ⟨rfl, rfl⟩
end
end
section
open Go.RowKit Go Go.Sort
theorem infoNp : (Tryz.prog.info? 113).map (fun i => (i.zero, i.size, i.bytes)) = some (some (.pointer none), 1, 8) := by kernel_rfl
def ptrs (l : List (Nat × Nat)) : List Value := l.map fun p => .pointer (some ⟨p.1, 0, none⟩)
section
variable {w w' : World} {b wb : Nat} {v : Value} {ns : List (Nat × Nat)}
set_option maxRecDepth 100000 in
set_option maxHeartbeats 4000000 in
theorem anodes_any (h : ClAt b w wb v ns) (hl : ns.length = 2) : Calls Tryz.prog 43 #[.pointer (some ⟨wb, 0, none⟩)] w fun e w' => ∃ A c, e = .returned (.slice A 2 c) ∧ w'.ownsRow w.heap.size 113 1 (.slice A 2 c) 2 (ptrs ns) ∧ Only [] w w' := by
  have HS := Lib.hid (fun (W : World) (k : Only [] w W) (i : Nat) (hi : i < 2) (q : Nat × Nat) (hq : ns[i]? = some q) => show Calls Tryz.prog 82 #[.pointer (some ⟨wb, 0, none⟩), .int .i64 i] W fun e w' => e = .returned (.pointer (some ⟨q.1, 0, none⟩)) ∧ w' = W from by
    obtain ⟨_, rfl⟩ := List.getElem?_eq_some_iff.1 hq
    exact wnode_some (h.keep0 k) hl i hi)
  have HNo := Lib.hid (fun (W : World) (k : Only [] w W) (i : Nat) (hi : 2 ≤ i) (h7 : i ≤ 100) => wnode_none (h.keep0 k) hl i hi h7)
  have HL := Lib.hid hl
  have HR0 := Lib.hid (show w.ownsRow w.heap.size 113 1 (.slice none 0 0) (ns.take 0).length (ptrs (ns.take 0)) from World.ownsRow_nil _ _ _ _)
  clear h hl
  go_enter Tryz.func43, Tryz.ntmps43
  go_wp2_with fail
  go_loopw [3, 6] (fun ov iv wr => ∃ k : Nat, k ≤ 7 ∧ iv = .int .i64 k ∧ Hid (wr.ownsRow w.heap.size 113 1 ov (ns.take k).length (ptrs (ns.take k))) ∧ Hid (Only [] w wr)) (fun _ iv _ => 7 - (intOf iv).toNat)
  case atStart => exact ⟨0, by omega, rfl, HR0, Lib.hid (Only.refl _ _)⟩
  case round =>
    obtain ⟨k, hk, rfl, hR, hO⟩ := hrel
    obtain ⟨A, c, rfl, hnc, hcm⟩ := own_form hR.out
    have e9 := IntWalk.i64_in ((k : Int) + 1) ⟨by omega, by omega⟩
    by_cases h7 : k < 7
    · have hki : (k : Int) < 7 := by omega
      by_cases h2 : k < 2
      · have hlt : k < ns.length := by have := HL.out; omega
        have htk : ns.take (k + 1) = ns.take k ++ [ns[k]] := List.take_succ_eq_append_getElem hlt
        obtain ⟨q, hq⟩ : ∃ q, ns[k] = q := ⟨_, rfl⟩
        rw [hq] at htk
        have HC2 := Lib.hid (show Calls Tryz.prog 82 #[.pointer (some ⟨wb, 0, none⟩), .int .i64 k] wr fun e w' => e = .returned (.pointer (some ⟨q.1, 0, none⟩)) ∧ w' = wr from HS.out _ hO.out k h2 q (by rw [List.getElem?_eq_getElem hlt, hq]))
        have hlk : (ns.take k).length ≤ 2 := by rw [List.length_take]; omega
        have hr4 := hR.out.alloc (.cells [Value.pointer (some ⟨q.1, 0, none⟩)].toArray 113)
        obtain ⟨A5, c5, w5, hrun, hown, hO5, hfr⟩ := run_app (P := Tryz.prog) 111 111 w.heap.size 113 (.pointer none) 1 8 Tryz.underlying111 infoNp rfl (by decide) hr4 (slc_new1 (w := wr) (e := 113) (size := 1) (cs := [Value.pointer (some ⟨q.1, 0, none⟩)]) rfl) (by simp [Value.oneCell']) (by omega) (by unfold maxLen; omega) (by have := hO.out.size; simp; omega)
        have hrl := fun g hg => World.ownsRow.lt hr4 g hg
        have HR1 := Lib.hid (show w5.ownsRow w.heap.size 113 1 (.slice A5 ((ns.take k).length + 1) c5) (ns.take (k + 1)).length (ptrs (ns.take (k + 1))) from by
          rw [htk, List.length_append]
          unfold ptrs
          rw [List.map_append]
          exact hown)
        have HO5 := Lib.hid (show Only [] w w5 from (hO.out.alloc _).step hO5 (fun i hi => .inr (hrl i (by simpa using hi)).1))
        have HR := Lib.hid hrun
        obtain ⟨m, hm⟩ : ∃ m, (ns.take k).length = m := ⟨_, rfl⟩
        rw [hm] at HR HR1 hnc ⊢
        clear hrun hown hO5 hfr hr4 hrl hq htk hR hO hlk hm hlt
        go_wp2_with (first
          | (go_at_call 82; refine HC2.out.mono ?_; rintro e w1 ⟨rfl, rfl⟩)
          | (at_builtin; refine Lib.wpList_append_run _ rfl (.tmp 14) (.tmp 16) 111 111 rfl _ _ rfl rfl _ _ HR.out ?_))
        exact ⟨⟨k + 1, by omega, by simp, HR1, HO5⟩, by simp [intOf]; omega⟩
      · have HC := Lib.hid (HNo.out _ hO.out k (by omega) (by omega))
        have htk : ns.take (k + 1) = ns.take k := by rw [List.take_of_length_le (by have := HL.out; omega), List.take_of_length_le (by have := HL.out; omega)]
        have HR1 := Lib.hid (show wr.ownsRow w.heap.size 113 1 (.slice A (ns.take k).length c) (ns.take (k + 1)).length (ptrs (ns.take (k + 1))) from by rw [htk]; exact hR.out)
        obtain ⟨m, hm⟩ : ∃ m, (ns.take k).length = m := ⟨_, rfl⟩
        rw [hm] at HR1 ⊢
        clear hm htk hR
        have HOk := hO
        go_wp2_with (go_at_call 82; refine HC.out.mono ?_; rintro e w1 ⟨rfl, rfl⟩)
        exact ⟨⟨k + 1, by omega, by simp, HR1, HOk⟩, by simp [intOf]; omega⟩
    · have hk7 : ns.take k = ns := List.take_of_length_le (by have := HL.out; omega)
      have hr := hR.out
      rw [hk7, HL.out] at hr
      rw [hk7, HL.out]
      have hge : ¬ (k : Int) < 7 := by omega
      have HRf := Lib.hid hr
      clear hr hR
      go_wp2_with fail
      go_ret
      exact ⟨_, _, rfl, HRf.out, hO.out⟩
end
end
end Go.Proofs.YteinoiicnmemhaaGreatDoor

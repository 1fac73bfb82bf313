/- What GroupDrains comes to, in plain states. -/
import Derived.Test.YthjgplgfcbhihaaGl3
set_option linter.unusedVariables false
set_option linter.unusedSimpArgs false
namespace Go.Proofs.Ythjgplgfcbhihaa
open Go.RowKit
def nm (b : Bool) : ByteArray := if b then nB else nA
def setF (F : Bool → List Int) (b : Bool) (l : List Int) : Bool → List Int := fun c => if c = b then l else F c
def dS (f buf m x : Int) (F : Bool → List Int) (AK : List Int) (T : List (Int × Int)) : GS :=
  ⟨f, buf, 0, m, rangeUp (m - x).toNat x, [(nA, F false), (nB, F true)], [], AK, [], T⟩
section
variable {f buf m x : Int} {F : Bool → List Int} {AK : List Int} {T : List (Int × Int)}
theorem dS_is (b : Bool) : (dS f buf m x F AK T).is (nm b) = true := by cases b <;> rfl
theorem dS_fl (b : Bool) : (dS f buf m x F AK T).fl (nm b) = F b := by cases b <;> rfl
theorem dS_put (b : Bool) (l : List Int) : aput (dS f buf m x F AK T).flight (nm b) l = (dS f buf m x (setF F b l) AK T).flight := by cases b <;> rfl
theorem range_cons (h : x < m) : rangeUp (m - x).toNat x = x :: rangeUp (m - (x + 1)).toNat (x + 1) := by
  have e : (m - x).toNat = (m - (x + 1)).toNat + 1 := by omega
  rw [e, rangeUp]
theorem dS_next (b : Bool) (h : x < m) (hl : (F b).length < buf) : ∃ T', (dS f buf m x F AK T).next1 (nm b) = ((x, true), dS f buf m (x + 1) (setF F b (insL (F b) x)) AK T') := by
  refine ⟨aput T x ((dS f buf m x F AK T).tr x + 1), ?_⟩
  unfold GS.next1 GS.take1
  rw [dS_is, dS_fl, if_neg (by intro q; rcases q with q | q; exact Bool.noConfusion q; have q' : buf ≤ ((F b).length : Int) := q; omega)]
  have hw : (dS f buf m x F AK T).waiting = x :: rangeUp (m - (x + 1)).toNat (x + 1) := range_cons h
  rw [hw]
  simp only
  rw [dS_put]
  rfl
theorem dS_full (b : Bool) (hl : buf ≤ (F b).length) : (dS f buf m x F AK T).next1 (nm b) = ((0, false), dS f buf m x F AK T) := by
  unfold GS.next1 GS.take1
  rw [dS_is, dS_fl, if_pos (show true = false ∨ (dS f buf m x F AK T).buffer ≤ ((F b).length : Int) from .inr hl)]
theorem remL_head {y : Int} {l : List Int} (h : Ris (y :: l)) : remL (y :: l) y = l := by
  have e : lb (y :: l) y = 0 := List.countP_eq_zero.2 (fun z hz => by
    rcases List.mem_cons.1 hz with rfl | hz
    · simp
    · have := (List.pairwise_cons.1 h).1 z hz
      simp
      omega)
  unfold remL
  rw [if_pos (by simp), e]
  rfl
theorem takeGo_all : ∀ {l : List Int}, Ris l → GS.takeGo l l = ([], l)
  | [], _ => rfl
  | y :: l, h => by
    rw [GS.takeGo, if_pos (by simp), remL_head h, takeGo_all (List.pairwise_cons.1 h).2]
theorem dS_take (b : Bool) (h : Ris (F b)) : (dS f buf m x F AK T).take (nm b) (F b) = (F b, if F b = [] then dS f buf m x F AK T else dS f buf m x (setF F b []) AK T) := by
  unfold GS.take
  rw [if_pos (dS_is b), dS_fl]
  dsimp only
  rw [takeGo_all h]
  dsimp only
  split
  · rfl
  · rw [dS_put]
    rfl
/-- What is acked behind it. -/
def ackL (m x : Int) (F : Bool → List Int) (b : Bool) (AK : List Int) : List Int :=
  ((F b).foldl insL AK).filter (fun n => !decide (n < GS.least (F (!b)) (GS.least (rangeUp (m - x).toNat x) m)))
theorem dS_ack (b : Bool) (h : Ris (F b)) : ∃ T', (dS f buf m x F AK T).ack (nm b) (F b) = (((F b).length : Int), if F b = [] then dS f buf m x F AK T else dS f buf m x (setF F b []) (ackL m x F b AK) T') := by
  refine ⟨(F b).foldl adel T, ?_⟩
  unfold GS.ack
  rw [dS_take b h]
  dsimp only
  by_cases hn : F b = []
  · rw [if_pos hn, if_pos hn, if_pos hn, hn]
    rfl
  · rw [if_neg hn, if_neg hn, if_neg hn]
    refine congrArg _ ?_
    cases b <;> rfl
theorem dS_ck (h : F false = []) (h2 : F true = []) : (dS f buf m m F AK T).checkpoint = m := by
  unfold GS.checkpoint dS
  simp only [Int.sub_self, h, h2]
  rfl
/-- What stands in every round. -/
structure DInv (f buf m x : Int) (c : Nat) (F : Bool → List Int) (AK : List Int) : Prop where
  fed : ∀ b, Fed f x (F b)
  few : ∀ b, ((F b).length : Int) ≤ buf
  ack : Fed f x AK
  j : F false = [] → F true = [] → AK = []
  cnt : (c : Int) * buf + (F false).length + (F true).length = x - f
  lo : f ≤ x
  hi : x ≤ m
  pos : 1 ≤ buf
theorem insL_end {l : List Int} (h : Fed f x l) : insL l x = l ++ [x] := by
  have hc : l.contains x = false := by
    cases q : l.contains x with
    | false => rfl
    | true =>
      have := h.mem x (by simpa using q)
      omega
  unfold insL
  rw [hc]
  have e : lb l x = l.length := by
    unfold lb
    rw [List.countP_eq_length]
    intro y hy
    have := (h.mem y hy).2
    simpa using this
  rw [e]
  simp
theorem setF_same (l : List Int) (b : Bool) : setF F b l b = l := by simp [setF]
theorem setF_other (l : List Int) (b c : Bool) (h : c ≠ b) : setF F b l c = F c := by simp [setF, h]
theorem setF_sum (b : Bool) (l : List Int) : ((setF F b l false).length : Int) + (setF F b l true).length = (F false).length + (F true).length - (F b).length + l.length := by
  cases b <;> simp [setF] <;> omega
theorem DInv.next {c : Nat} (h : DInv f buf m x c F AK) (b : Bool) (hx : x < m) (hl : (F b).length < buf) : DInv f buf m (x + 1) c (setF F b (insL (F b) x)) AK := by
  have hx0 := h.lo
  rw [insL_end (h.fed b)]
  have hfed : ∀ c, Fed f (x + 1) (setF F b (F b ++ [x]) c) := fun c => by
    by_cases e : c = b
    · subst e
      rw [setF_same]
      have := (h.fed c).up h.lo 1
      simpa [rangeUp] using this
    · rw [setF_other _ _ _ e]
      exact (h.fed c).more (by omega)
  refine ⟨hfed, fun c => ?_, h.ack.more (by omega), fun q1 q2 => ?_, ?_, by omega, by omega, h.pos⟩
  · by_cases e : c = b
    · subst e
      rw [setF_same]
      simp
      omega
    · rw [setF_other _ _ _ e]
      exact h.few c
  · exfalso
    cases b
    · rw [setF_same] at q1
      simp at q1
    · rw [setF_same] at q2
      simp at q2
  · have := setF_sum (F := F) b (F b ++ [x])
    have hc := h.cnt
    simp only [List.length_append, List.length_singleton] at this
    omega
theorem fed_ackL (hfed : ∀ b, Fed f x (F b)) (hack : Fed f x AK) (b : Bool) : Fed f x (ackL m x F b AK) :=
  (Fed.fold _ _ hack (hfed b).mem).sub List.filter_sublist
theorem ackL_nil (hfed : ∀ b, Fed f x (F b)) (hack : Fed f x AK) (hi : x ≤ m) (b : Bool) (hn : F (!b) = []) : ackL m x F b AK = [] := by
  unfold ackL
  rw [hn]
  have hf := Fed.fold _ _ hack (hfed b).mem
  refine List.filter_eq_nil_iff.2 fun y hy => ?_
  have hy2 := (hf.mem y hy).2
  have hlo : x ≤ GS.least [] (GS.least (rangeUp (m - x).toNat x) m) := by
    by_cases e : x < m
    · rw [range_cons e]
      show x ≤ min m x
      omega
    · have : (m - x).toNat = 0 := by omega
      rw [this]
      show x ≤ m
      omega
  have : y < GS.least [] (GS.least (rangeUp (m - x).toNat x) m) := by omega
  simp [this]
/-- A full buffer is acked. -/
theorem DInv.full {c : Nat} (h : DInv f buf m x c F AK) (b : Bool) (hl : ((F b).length : Int) = buf) : DInv f buf m x (c + 1) (setF F b []) (ackL m x F b AK) := by
  refine ⟨fun d => ?_, fun d => ?_, fed_ackL h.fed h.ack b, fun q1 q2 => ?_, ?_, h.lo, h.hi, h.pos⟩
  · by_cases e : d = b
    · subst e
      rw [setF_same]
      exact Fed.nil _ _
    · rw [setF_other _ _ _ e]
      exact h.fed d
  · by_cases e : d = b
    · subst e
      rw [setF_same]
      have := h.pos
      simp
      omega
    · rw [setF_other _ _ _ e]
      exact h.few d
  · refine ackL_nil h.fed h.ack h.hi b ?_
    cases b
    · rw [setF_other _ _ _ (by decide)] at q2
      exact q2
    · rw [setF_other _ _ _ (by decide)] at q1
      exact q1
  · have := setF_sum (F := F) b []
    have hc := h.cnt
    have e : ((c + 1 : Nat) : Int) * buf = (c : Int) * buf + buf := by
      rw [Int.natCast_add, Int.add_mul]
      simp
    rw [e]
    simp only [List.length_nil] at this
    omega
/-- Whatever is in a buffer is acked. -/
theorem dS_end (hfed : ∀ b, Fed f x (F b)) (hack : Fed f x AK) (hj : F false = [] → F true = [] → AK = []) (hi : x ≤ m) (b : Bool) :
    ∃ F' AK' T', (dS f buf m x F AK T).ack (nm b) (F b) = (((F b).length : Int), dS f buf m x F' AK' T') ∧ F' b = [] ∧ (∀ d, d ≠ b → F' d = F d) ∧ (∀ d, Fed f x (F' d)) ∧ Fed f x AK' ∧ (F' false = [] → F' true = [] → AK' = []) := by
  obtain ⟨T', h1⟩ := dS_ack (f := f) (buf := buf) (m := m) (x := x) (F := F) (AK := AK) (T := T) b (hfed b).ris
  by_cases hn : F b = []
  · rw [if_pos hn] at h1
    exact ⟨F, AK, T, h1, hn, fun d _ => rfl, hfed, hack, hj⟩
  · rw [if_neg hn] at h1
    refine ⟨_, _, _, h1, setF_same _ _, fun d hd => setF_other _ _ _ hd, fun d => ?_, fed_ackL hfed hack b, fun q1 q2 => ?_⟩
    · by_cases e : d = b
      · subst e
        rw [setF_same]
        exact Fed.nil _ _
      · rw [setF_other _ _ _ e]
        exact hfed d
    · refine ackL_nil hfed hack hi b ?_
      cases b
      · rw [setF_other _ _ _ (by decide)] at q2
        exact q2
      · rw [setF_other _ _ _ (by decide)] at q1
        exact q1
theorem DInv.count {c : Nat} (h : DInv f buf m x c F AK) : (c : Int) ≤ x - f := by
  have h1 := h.cnt
  have h2 := h.pos
  have : (c : Int) * 1 ≤ (c : Int) * buf := Int.mul_le_mul_of_nonneg_left h2 (by omega)
  omega
theorem dS_join (f buf : Int) : (GS.new f buf 0).join nA = (0, ⟨f, buf, 0, f, [], [(nA, [])], [], [], [], []⟩) := rfl
theorem dS_join2 (f buf : Int) : (⟨f, buf, 0, f, [], [(nA, [])], [], [], [], []⟩ : GS).join nB = (0, ⟨f, buf, 0, f, [], [(nA, []), (nB, [])], [], [], [], []⟩) := rfl
theorem dS_feed (f buf n : Int) (h0 : 0 ≤ n) (h1 : n ≤ 100) : (⟨f, buf, 0, f, [], [(nA, []), (nB, [])], [], [], [], []⟩ : GS).feed n = (n, dS f buf (f + n) f (fun _ => []) [] []) := by
  unfold GS.feed
  by_cases hn : n < 1
  · have : n = 0 := by omega
    subst this
    rw [if_pos hn]
    unfold dS
    simp
    rfl
  · rw [if_neg hn]
    have e : (max (min n (1000 - ((⟨f, buf, 0, f, [], [(nA, []), (nB, [])], [], [], [], []⟩ : GS).openN : Int))) 0).toNat = n.toNat := by
      have : ((⟨f, buf, 0, f, [], [(nA, []), (nB, [])], [], [], [], []⟩ : GS).openN : Int) = 0 := rfl
      rw [this]
      omega
    dsimp only
    rw [e]
    rw [List.nil_append, ris_sort (rangeUp_ris _ _)]
    unfold dS
    have e2 : (f + n - f).toNat = n.toNat := by omega
    have e3 : ((n.toNat : Nat) : Int) = n := by omega
    rw [e2, e3]
theorem DInv.start (f buf m : Int) (hb : 1 ≤ buf) (hm : f ≤ m) : DInv f buf m f 0 (fun _ => []) [] :=
  ⟨fun _ => Fed.nil _ _, fun _ => by simp; omega, Fed.nil _ _, fun _ _ => rfl, by simp, Int.le_refl _, hm, hb⟩
end
end Go.Proofs.Ythjgplgfcbhihaa

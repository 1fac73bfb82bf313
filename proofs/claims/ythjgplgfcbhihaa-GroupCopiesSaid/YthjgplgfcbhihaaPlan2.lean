/- A region that draws its order, by a plan of five parts: reads, early ones, reads again, early ones, the rest. No program is named. -/
import Derived.Test.YthjgplgfcbhihaaPlan
set_option linter.unusedVariables false
set_option linter.unusedSimpArgs false
namespace Go.Proofs.Ythjgplgfcbhihaa
open Go Go.RowKit Go.Sort
section
variable {P : Program} {md : Region.Mode} {C : World → Prop} {Q : Exit → Act → World → Prop} {l : List Oper}
def seqTo (md : Region.Mode) (ops : Array Oper) (S : Array Bool → Bool) : List Nat → Array Bool → Bool
  | [], listed => S listed
  | t :: ts, listed => decide (Region.ready md ops listed = [t]) && seqTo md ops S ts (listed.setIfInBounds t true)
def headTo (md : Region.Mode) (ops : Array Oper) (S : Array Bool → Bool) : List Nat → Array Bool → Bool
  | [], listed => S listed
  | h :: H, listed => (Region.ready md ops listed).contains h && Region.free md ops listed h && headTo md ops S H (listed.setIfInBounds h true)
theorem plan_A {H T1 : List Nat} {n : Nat} {S : Array Bool → Bool} {L : Act → World → Prop} (hL : ∀ listed a w, S listed = true → L a w → AnyP P md l.toArray C Q H T1 n listed a w) :
    ∀ (T : List Nat) (listed : Array Bool) (a : Act) (w : World), (∀ t ∈ T, t ∉ H) → seqTo md l.toArray S T listed = true → wpT1 P l.toArray C Q (opsAt l T) L a w → AnyP P md l.toArray C Q H T1 (T.length + n) listed a w
  | [], listed, a, w, _, hs, h => by rw [List.length_nil, Nat.zero_add]; exact hL listed a w hs h
  | t :: ts, listed, a, w, hd, hs, h => by
    simp only [seqTo, Bool.and_eq_true, decide_eq_true_eq] at hs
    obtain ⟨o, ho⟩ := ready_get hs.1
    rw [opsAt_cons ho] at h
    rw [List.length_cons, show ts.length + 1 + n = (ts.length + n) + 1 by omega]
    refine ⟨by rw [hs.1]; simp, fun i hi => ?_⟩
    rw [hs.1] at hi
    have : i = t := by simpa using hi
    subst this
    refine .inr ⟨hd i (by simp), ?_⟩
    have hw := wpOp_check (i := i) (by simpa using ho) h
    exact wpOp_mono (fun a' w' h' => ⟨fun _ => h'.1, plan_A hL ts _ a' w' (fun t ht => hd t (by simp [ht])) hs.2 h'.2⟩) hw
theorem plan_Hn {H T1 : List Nat} {n : Nat} {S : Array Bool → Bool} {L : Act → Prop} {w : World} (hsel : Region.noSelect l.toArray = true) (hQ : ∀ c d u a w, Q (.panic c) (Act.put a d u) w → Q (.panic c) a w)
    (hL : ∀ listed a, S listed = true → L a → AnyP P md l.toArray C Q H T1 n listed a w) :
    ∀ (H' : List Nat) (listed : Array Bool) (a : Act), (∀ h ∈ H', h ∈ H ∧ plainAt l.toArray h = true) → headTo md l.toArray S H' listed = true → wpQuiet P l.toArray C L (opsAt l H') a →
      AnyP P md l.toArray C Q H T1 (H'.length + n) listed a w
  | [], listed, a, _, hs, h => by rw [List.length_nil, Nat.zero_add]; exact hL listed a hs h
  | i :: is, listed, a, hd, hs, h => by
    simp only [headTo, Bool.and_eq_true] at hs
    obtain ⟨⟨hr, hf⟩, hs'⟩ := hs
    have hr' : i ∈ Region.ready md l.toArray listed := by simpa using hr
    obtain ⟨_, o, ho, _⟩ := mem_ready.1 hr'
    have ho' : l[i]? = some o := by simpa using ho
    rw [opsAt_cons ho'] at h
    have hst : qOp P l.toArray C i (wpQuiet P l.toArray C L (opsAt l is)) a := by unfold qOp; simp only [ho]; exact h
    obtain ⟨v, hy, hK⟩ := yieldsIn_of_qOp ho hst
    have hpl : plainB o = true := by
      have := (hd i (by simp)).2
      unfold plainAt at this
      rw [ho] at this
      exact this
    have hyS : YieldsS P l.toArray C o v a := by
      rcases hy with ⟨q1, q2⟩ | q
      · refine .inl ⟨q1, fun W hW => ?_⟩
        have q3 := q2 W hW
        unfold Oper.quietAt at q3
        generalize hrr : (execOp a.eval o).run P W = r at q3 ⊢
        cases r with
        | ok n W' =>
          obtain ⟨u, rfl⟩ := plain_value hpl hrr
          simp only [Oper.quietUpon] at q3
          obtain ⟨e1, e2⟩ := q3
          rw [e1, e2]
        | halt x W' => simp only [Oper.quietUpon] at q3
      · exact .inr q
    rw [List.length_cons, show is.length + 1 + n = (is.length + n) + 1 by omega]
    exact plan_first ho (Region.noSelect_spec hsel) (hd i (by simp)).1 hQ _ listed a w (Region.free_spec ho hf) hr' hyS
      (plan_Hn hsel hQ hL is _ _ (fun h hh => hd h (by simp [hh])) hs' hK)
theorem anyP_anyZ {ops : Array Oper} {H T1 T2 Z : List Nat} (hb : behindB md ops Z T2 = true) (hz : ∀ h ∈ H, h ∈ Z) (hcov : ∀ i, i < ops.size → i ∈ H ∨ i ∈ T1 ∨ i ∈ T2) : ∀ (f : Nat) (listed : Array Bool) (a : Act) (w : World), Closed md ops listed → (C w ∨ ∀ h ∈ H, listed.getD h false = true) →
    AnyP P md ops C Q H T1 f listed a w → wpAny P md ops Q f listed a w
  | 0, _, _, _, _, _, h => h
  | f + 1, listed, a, w, inv, hC, h => by
    refine ⟨fun h0 => absurd h0 h.1, fun i hi => ?_⟩
    rcases h.2 i hi with ⟨hiH, o, v, ho, hy, hK⟩ | ⟨hiH, hop⟩
    · have hCw : C w := by
        rcases hC with q | q
        · exact q
        · have := q i hiH
          rw [getD_both (mem_ready.1 hi).1] at this
          cases this
      exact hy.wpOp ho hCw (anyP_anyZ hb hz hcov f _ _ _ (inv.set hi) (.inl hCw) hK)
    · refine wpOp_mono (fun a' w' hk => anyP_anyZ hb hz hcov f _ a' w' (inv.set hi) ?_ hk.2) hop
      obtain ⟨_, oi, hoi, _⟩ := mem_ready.1 hi
      have hlt : i < ops.size := (Array.getElem?_eq_some_iff.1 hoi).1
      rcases hcov i hlt with q | q | q
      · exact absurd q hiH
      · exact .inl (hk.1 q)
      · exact .inr fun x hx => getD_set_true (behind_spec inv hb q hi x (hz x hx))
def planB2 (md : Region.Mode) (ops : Array Oper) (H A G B T2 : List Nat) : Bool :=
  (Region.noSelect ops && (H ++ G).all (plainAt ops)) && (((List.range ops.size).all (fun i => (H ++ G).contains i || ((A ++ B).contains i || T2.contains i)) && ((A ++ (B ++ T2)).all (fun i => !(H ++ G).contains i) && T2.all (fun i => !(A ++ B).contains i))) &&
    (decide (H.length + (A.length + (G.length + (B.length + T2.length))) = ops.size) && (behindB md ops (H ++ (A ++ (G ++ B))) T2 && headTo md ops (seqTo md ops (headTo md ops (seqTo md ops (seqL md ops T2) B) G) A) H (Array.replicate ops.size false))))
/-- The region by a plan of five parts. -/
theorem wp_region_plan2 {id : Nat} {a : Act} {w : World} (H A G B T2 : List Nat) (hm : P.follows .mixedOrders = true) (hB : planB2 .any l.toArray H A G B T2 = true) (hQ : ∀ c d u a w, Q (.panic c) (Act.put a d u) w → Q (.panic c) a w) (hC : C w.drew)
    (h : wpQuiet P l.toArray C (fun a' => wpT1 P l.toArray C Q (opsAt l A) (fun a w => wpQuiet P l.toArray C (fun a' => wpT1 P l.toArray C Q (opsAt l B) (fun a w => wpList P l.toArray Q (opsAt l T2) a w) a' w) (opsAt l G) a) a' w.drew) (opsAt l H) a) : (Code.region id l.toArray true).wp P Q a w := by
  simp only [planB2, Bool.and_eq_true, decide_eq_true_eq, List.all_eq_true, Bool.or_eq_true, List.contains_iff_mem, Bool.not_eq_true'] at hB
  obtain ⟨⟨hsel, hpl⟩, ⟨hcov, hd1, hd2⟩, hlen, hbe, hhd⟩ := hB
  refine wp_region_any hm ?_
  have inv0 : Closed .any l.toArray (Array.replicate l.toArray.size false) := fun j oj _ hl => by rw [getD_replicate_false] at hl; cases hl
  have hd1' : ∀ t ∈ A ++ (B ++ T2), t ∉ H ++ G := fun t ht q => by
    have := hd1 t ht
    rw [List.contains_eq_mem, decide_eq_true q] at this
    cases this
  have hd2' : ∀ t ∈ T2, t ∉ A ++ B := fun t ht q => by
    have := hd2 t ht
    rw [List.contains_eq_mem, decide_eq_true q] at this
    cases this
  have h2 : ∀ t ∈ T2, t ∉ H ++ G ∧ t ∉ A ++ B := fun t ht => ⟨hd1' t (by simp [ht]), hd2' t ht⟩
  have := plan_Hn (C := C) (md := .any) (H := H ++ G) (T1 := A ++ B) (S := seqTo .any l.toArray (headTo .any l.toArray (seqTo .any l.toArray (seqL .any l.toArray T2) B) G) A) hsel hQ
    (fun listed a hs hl => plan_A (S := headTo .any l.toArray (seqTo .any l.toArray (seqL .any l.toArray T2) B) G)
      (fun listed a w hs hl => plan_Hn (S := seqTo .any l.toArray (seqL .any l.toArray T2) B) hsel hQ
        (fun listed a hs hl => plan_A (S := seqL .any l.toArray T2) (fun listed a w hs hl => plan_T2 T2 listed a w h2 hs hl) B listed a w (fun t ht => hd1' t (by simp [ht])) hs hl)
        G listed a (fun h hh => ⟨by simp [hh], hpl h (by simp [hh])⟩) hs hl)
      A listed a w.drew (fun t ht => hd1' t (by simp [ht])) hs hl) H _ a (fun h hh => ⟨by simp [hh], hpl h (by simp [hh])⟩) hhd h
  rw [hlen] at this
  exact anyP_anyZ hbe (fun x hx => by simp at hx ⊢; rcases hx with q | q <;> simp [q]) (fun i hi => by
    rcases hcov i (List.mem_range.2 hi) with q | q | q
    · exact .inl q
    · exact .inr (.inl q)
    · exact .inr (.inr q)) _ _ _ _ inv0 (.inl hC) this
/-- Behind the last early operation, where nothing is left. -/
theorem check_last {S : List Nat} {w w' : World} {K : Act → World → Prop} {a : Act} (hO : Only S w w') (hK : ∀ a w, Q .normal a w → K a w) (h : Q .normal a w') : CheckQ (fun W => ∃ p : Within S w, W = p.W) Q K .normal a w' := ⟨⟨⟨w', hO⟩, rfl⟩, hK _ _ h⟩
theorem wp_region_in2 {id : Nat} {a : Act} {w : World} (S H A G B T2 : List Nat) (hm : P.follows .mixedOrders = true) (hB : planB2 .any l.toArray H A G B T2 = true) (hQ : ∀ c d u a w, Q (.panic c) (Act.put a d u) w → Q (.panic c) a w)
    (h : wpQuiet P l.toArray (fun W => ∃ p : Within S w, W = p.W) (fun a' => wpT1 P l.toArray (fun W => ∃ p : Within S w, W = p.W) Q (opsAt l A) (fun a W => wpQuiet P l.toArray (fun W => ∃ p : Within S w, W = p.W) (fun a' => wpT1 P l.toArray (fun W => ∃ p : Within S w, W = p.W) Q (opsAt l B) (fun a w => wpList P l.toArray Q (opsAt l T2) a w) a' W) (opsAt l G) a) a' w.drew) (opsAt l H) a) : (Code.region id l.toArray true).wp P Q a w :=
  wp_region_plan2 H A G B T2 hm hB hQ ⟨⟨_, (Only.refl S w).drew⟩, rfl⟩ h
end
end Go.Proofs.Ythjgplgfcbhihaa

/- A map whose known keys are given other values while it is ranged over. No program is named. -/
import Derived.Test.YthjgplgfcbhihaaIter
set_option linter.unusedVariables false
set_option linter.unusedSimpArgs false
namespace Go.Proofs.Ythjgplgfcbhihaa
open Go.RowKit Go.MapKept Go.ChangeMaps
section
variable {κ : Type} [DecidableEq κ] {enc : κ → Value} {w w' : World} {r b : Nat} {kv left : List (κ × Value)} {P : Program} {t k e : TypeId} {d : TypeDesc}
theorem split_at {α : Type} : ∀ (l : List α) (j : Nat) (x : α), l[j]? = some x → ∃ l1 l2, l = l1 ++ x :: l2 ∧ l1.length = j
  | [], _, _, h => by cases h
  | a :: l, 0, x, h => by
    simp at h
    subst h
    exact ⟨[], l, rfl, rfl⟩
  | a :: l, j + 1, x, h => by
    obtain ⟨l1, l2, e1, e2⟩ := split_at l j x (by simpa using h)
    exact ⟨a :: l1, l2, by rw [e1]; rfl, by simp [e2]⟩
theorem modify_split {α : Type} (f : α → α) : ∀ (l1 l2 : List α) (x : α), (l1 ++ x :: l2).modify l1.length f = l1 ++ f x :: l2
  | [], l2, x => rfl
  | a :: l1, l2, x => by
    simp only [List.cons_append, List.length_cons]
    rw [List.modify_succ_cons, modify_split f l1 l2 x]
theorem IterIs.update (K : KeyEnc d enc) (ht : P.underlying t = some (.map k e)) (hk : P.underlying k = some d) (h : IterIs enc w r b kv left) (q : κ) (v : Value) (hq : (aget kv q).isSome = true) (hn : q ∉ left.map (·.1)) :
    ∃ o, (Instr.mapUpdate t (.map (some b)) (enc q) v).run P w = .ok () (setBlock w b o) ∧ IterIs enc (setBlock w b o) r b (aput kv q v) left := by
  have hne := h.ne
  obtain ⟨es, clock, since, seen, c0, hb, hs, hm, hr, hold, hsc, hsk, hl⟩ := h
  rcases findNow_enc K q es.toList kv 0 hm with ⟨p1, p2, p3, p4, _⟩ | ⟨j, e', v0, p1, p2, p3, p4, p5, _, p7, _⟩
  · rw [p2] at hq; cases hq
  · have hj : es[j]? = some e' := by simpa using p2
    have hkey : ∀ x, es[j]? = some x → ({ x with key := enc q, val := v } : MapEntry).key = x.key := fun x hx => by rw [hj] at hx; cases hx; exact p3.symm
    obtain ⟨l1, l2, hsp, hlen⟩ := split_at es.toList j e' p2
    have hmod : (es.modify j fun x => { x with key := enc q, val := v }).toList = l1 ++ { e' with key := enc q, val := v } :: l2 := by
      rw [Array.toList_modify, hsp, ← hlen, modify_split]
    have hseen : seen.contains e'.born = true := by
      cases hh : seen.contains e'.born with
      | true => rfl
      | false =>
        exfalso
        have hmem : e' ∈ (leftOf es seen).toList := by
          simp only [leftOf, Array.toList_filter, List.mem_filter]
          exact ⟨by rw [hsp]; simp, by rw [hh]; rfl⟩
        have h2 : (e'.key, e'.val) ∈ left.map (fun p => (enc p.1, p.2)) := by
          rw [← hl]
          exact List.mem_map.2 ⟨e', hmem, rfl⟩
        obtain ⟨p, hp, hpe⟩ := List.mem_map.1 h2
        have : enc p.1 = enc q := by rw [← p3]; exact congrArg Prod.fst hpe
        exact hn (List.mem_map.2 ⟨p, hp, K.inj _ _ this⟩)
    have hleft : (leftOf (es.modify j fun x => { x with key := enc q, val := v }) seen).toList = (leftOf es seen).toList := by
      simp only [leftOf, Array.toList_filter]
      rw [hmod, hsp, List.filter_append, List.filter_append, List.filter_cons_of_neg (by simpa using hseen), List.filter_cons_of_neg (by simpa using hseen)]
    refine ⟨.map (es.modify j fun x => { x with key := enc q, val := v }) clock, ?_, es.modify j fun x => { x with key := enc q, val := v }, clock, since, seen, c0, heap_setBlock_same hb _, stamped_modify hs j _ (fun _ _ => rfl) (fun x _ hx => hkey x hx), ?_, ?_, ?_, hsc, hsk, ?_⟩
    · simp [Instr.mapUpdate, run_underlying ht, MapKept.run_getObj_map hb, MapKept.run_checkKey hk (K.key q), MapKept.run_findKey hk p1, hj, p3, MapKept.run_keyThatStays (K.key q), MapKept.run_setObj_map _ hb, Result.andThen, Go.ChangeMaps.setBlock]
    · rw [p7]
      apply List.ext_getElem?
      intro i
      have hm' := congrArg (fun l => l[i]?) hm
      simp only [List.getElem?_map] at hm'
      simp only [List.getElem?_map, Array.getElem?_toList, Array.getElem?_modify, List.getElem?_set]
      by_cases e : j = i
      · subst e
        have hl : j < kv.length := (List.getElem?_eq_some_iff.1 p5).1
        simp [hj, hl]
      · rw [if_neg e, if_neg e]
        simpa using hm'
    · simp only [setBlock, Array.getElem?_setIfInBounds]
      rw [if_neg (fun q => hne q.symm), hr]
    · intro x hx
      rw [hmod] at hx
      rcases List.mem_append.1 hx with hx | hx
      · exact hold x (by rw [hsp]; simp [hx])
      · rcases List.mem_cons.1 hx with rfl | hx
        · exact hold e' (by rw [hsp]; simp)
        · exact hold x (by rw [hsp]; simp [hx])
    · rw [hleft]
      exact hl
variable {ops : Array Oper} {rest : List Oper} {o : Oper} {a : Act} {Q : Exit → Act → World → Prop}
theorem wpList_update_iter (hg : o.guard = none) {m x v : Operand} (t : TypeId) (hop : o.op = .mapUpdate t m x v) (K : KeyEnc d enc) (ht : P.underlying t = some (.map k e)) (hk : P.underlying k = some d)
    (q : κ) (val : Value) (hm : a.eval m = .map (some b)) (hx : a.eval x = enc q) (hv : a.eval v = val) (h : IterIs enc w r b kv left) (hq : (aget kv q).isSome = true) (hn : q ∉ left.map (·.1))
    (hK : ∀ w', IterIs enc w' r b (aput kv q val) left → Only [b] w w' → wpList P ops Q rest (a.put o.dst undef) w') : wpList P ops Q (o :: rest) a w := by
  refine wpList_plain hg fun K' hK' => ?_
  obtain ⟨o', hrun, r1⟩ := h.update K ht hk q val hq hn
  unfold Oper.wp
  simp [execOp, hop, hm, hx, hv, hrun, Result.andThen]
  exact hK' _ _ (hK _ r1 ((Only.refl _ w).setBlock (.inl (by simp)) _))
theorem aput_mapf (F : κ → Value) (l : List κ) (hn : l.Nodup) (q : κ) (hq : q ∈ l) (v : Value) : aput (l.map fun a => (a, F a)) q v = l.map fun a => (a, if a = q then v else F a) := by
  induction l with
  | nil => cases hq
  | cons x l ih =>
    have hn' := List.nodup_cons.1 hn
    simp only [List.map_cons, aput]
    by_cases e : x = q
    · subst e
      rw [if_pos rfl, if_pos rfl]
      congr 1
      apply List.map_congr_left
      intro a ha
      rw [if_neg (fun (q' : a = x) => hn'.1 (by rw [← q']; exact ha))]
    · rw [if_neg e, if_neg e]
      congr 1
      refine ih hn'.2 ?_
      rcases List.mem_cons.1 hq with q | q
      · exact absurd q.symm e
      · exact q
end
end Go.Proofs.Ythjgplgfcbhihaa

/- Proved here: contracts of functions and plain laws, part 4 of one proof. Conditions: each theorem names its own. -/
import Derived.Test.YtpcemipfanimgaaGreatDoorP3
import Derived.Lib.ItoaMem
import Derived.Test.YtpcemipfanimgaaGreatDoorProg
import Derived.ProofKit
import Derived.OpenShut
import Derived.ChangeMaps5
import Derived.SliceStrings
import Derived.Deep.Slices
import Derived.ChangeArms
import Derived.DataReads
import Derived.Deep.AppendLies
import Derived.Lib.AppendZeros
import Derived.Lib.SliceRun
import Derived.Lib.OwnBridge
import Derived.Lib.LaidTab
import Derived.Lib.ItoaLen
import Derived.Laws.IdiomStrings
/- Links, plain: names, targets, what a target wants. No program is named. -/
set_option linter.unusedVariables false
set_option linter.unusedSimpArgs false
namespace Go.Proofs.YtpcemipfanimgaaGreatDoor
open Go.RowKit
def ba (l : List UInt8) : ByteArray := ⟨l.toArray⟩
theorem ba_bts (s : ByteArray) : ba s.data.toList = s := rfl
theorem bts_ba (l : List UInt8) : (ba l).data.toList = l := by simp [ba]
theorem ba_inj {a b : List UInt8} (h : ba a = ba b) : a = b := by rw [← bts_ba a, h, bts_ba]
theorem ba_eq {s : ByteArray} {l : List UInt8} : s = ba l ↔ s.data.toList = l := ⟨fun h => by rw [h, bts_ba], fun h => by rw [← h]; rfl⟩
theorem bts_inj {a b : ByteArray} (h : a.data.toList = b.data.toList) : a = b := by rw [← ba_bts a, h, ba_bts]
def ceP : List UInt8 := [36, 99, 101, 45]
def etP : List UInt8 := [36, 101, 116, 45]
def linkT : List UInt8 := [36, 62]
def sysL (l : List UInt8) : Bool := List.isPrefixOf [36] l
def isSys (s : ByteArray) : Bool := sysL s.data.toList
def preOf (b : UInt8) (l : List UInt8) : List UInt8 := l.takeWhile (fun x => x != b)
def cat (s : ByteArray) : Option ByteArray := if nameOk s = true ∧ isSys s = false ∧ (45 : UInt8) ∈ s.data.toList ∧ preOf 45 s.data.toList ≠ [] then some (ba (preOf 45 s.data.toList)) else none
def catB (t : List UInt8) : Bool := ceP.isPrefixOf t && (decide (t.drop 4 ≠ []) && !sysL (t.drop 4) && !decide ((45 : UInt8) ∈ t.drop 4))
def typB (t : List UInt8) : Bool := etP.isPrefixOf t && (nameOk (ba (t.drop 4)) && decide (t.drop 4 ≠ linkT))
def isTarget (t : ByteArray) : Bool := nameOk t && (catB t.data.toList || typB t.data.toList)
def ofCat (c : ByteArray) : ByteArray := ba (ceP ++ c.data.toList)
def ofTyp (c : ByteArray) : ByteArray := ba (etP ++ c.data.toList)
def targetsOf (s : StoredR) : List ByteArray := if isSys s.stream = true ∨ s.ev.type.data.toList = linkT then [] else ((cat s.stream).toList.map ofCat ++ [ofTyp s.ev.type]).filter isTarget
def wantsT (t : ByteArray) (s : StoredR) : Bool := (targetsOf s).any (fun x => decide (x = t))
theorem wantsT_iff {t : ByteArray} {s : StoredR} : wantsT t s = true ↔ t ∈ targetsOf s := by
  unfold wantsT
  rw [List.any_eq_true]
  constructor
  · rintro ⟨x, hx, h⟩
    rw [← of_decide_eq_true h]
    exact hx
  · exact fun h => ⟨t, h, decide_eq_true rfl⟩
/-- What the laws say. -/
def wantsL (t : ByteArray) (s : StoredR) : Bool :=
  nameOk t && decide (5 ≤ t.size) && !isSys s.stream && !decide (s.ev.type.data.toList = linkT) &&
    ((decide (t.data.toList.take 4 = ceP) && decide (cat s.stream = some (ba (t.data.toList.drop 4)))) || (decide (t.data.toList.take 4 = etP) && decide (s.ev.type.data.toList = t.data.toList.drop 4)))
theorem nameOk_size {s : ByteArray} (h : nameOk s = true) : 1 ≤ s.size ∧ s.size ≤ 60 := by
  simp [nameOk] at h
  exact ⟨h.1.1, h.1.2⟩
theorem nameOk_all {s : ByteArray} (h : nameOk s = true) : ∀ b ∈ s.data.toList, okByte b = true := by
  unfold nameOk at h
  rw [Bool.and_eq_true, List.all_eq_true] at h
  exact h.2
theorem nameOk_of {s : ByteArray} (h1 : 1 ≤ s.data.toList.length) (h2 : s.data.toList.length ≤ 60) (h3 : ∀ b ∈ s.data.toList, okByte b = true) : nameOk s = true := by
  have e : s.data.toList.length = s.size := by simp
  unfold nameOk
  rw [decide_eq_true (by omega : 1 ≤ s.size), decide_eq_true (by omega : s.size ≤ 60), Bool.true_and, Bool.true_and, List.all_eq_true]
  exact h3
theorem pre_prefix (p l : List UInt8) : p.isPrefixOf (p ++ l) = true := by
  rw [List.isPrefixOf_iff_prefix]
  exact List.prefix_append _ _
theorem pre_take {p t : List UInt8} (h : p.isPrefixOf t = true) : t.take p.length = p := by
  rw [List.isPrefixOf_iff_prefix] at h
  exact (List.prefix_iff_eq_take.1 h).symm
theorem sysL_takeWhile {l : List UInt8} {f : UInt8 → Bool} (h : sysL l = false) : sysL (l.takeWhile f) = false := by
  cases l with
  | nil => rfl
  | cons a l =>
    simp only [sysL, List.isPrefixOf, Bool.and_true, beq_eq_false_iff_ne] at h
    rw [List.takeWhile_cons]
    split
    · simp only [sysL, List.isPrefixOf, Bool.and_true, beq_eq_false_iff_ne]
      exact h
    · rfl
theorem not_mem_pre (b : UInt8) (l : List UInt8) : b ∉ preOf b l := by
  intro h
  unfold preOf at h
  induction l with
  | nil => simp at h
  | cons a l ih =>
    rw [List.takeWhile_cons] at h
    split at h
    · rename_i q
      rcases List.mem_cons.1 h with h | h
      · subst h
        simp at q
      · exact ih h
    · simp at h
theorem cat_some {s c : ByteArray} (h : cat s = some c) : nameOk s = true ∧ isSys s = false ∧ (45 : UInt8) ∈ s.data.toList ∧ c = ba (preOf 45 s.data.toList) ∧ c.data.toList ≠ [] := by
  unfold cat at h
  split at h
  · rename_i q
    injection h with h
    subst h
    exact ⟨q.1, q.2.1, q.2.2.1, rfl, by rw [bts_ba]; exact q.2.2.2⟩
  · cases h
theorem cat_good {s c : ByteArray} (h : cat s = some c) : c.data.toList ≠ [] ∧ sysL c.data.toList = false ∧ (45 : UInt8) ∉ c.data.toList := by
  obtain ⟨h1, h2, h3, h4, h5⟩ := cat_some h
  refine ⟨h5, ?_, ?_⟩
  · rw [h4, bts_ba]
    exact sysL_takeWhile h2
  · rw [h4, bts_ba]
    exact not_mem_pre _ _
theorem wants_eq (t : ByteArray) (s : StoredR) : wantsT t s = wantsL t s := by
  have hlen : t.data.toList.length = t.size := by simp
  rw [Bool.eq_iff_iff]
  rw [wantsT_iff]
  unfold targetsOf
  by_cases hs : isSys s.stream = true ∨ s.ev.type.data.toList = linkT
  · rw [if_pos hs]
    constructor
    · intro h; cases h
    · intro h
      simp only [wantsL, Bool.and_eq_true, Bool.not_eq_true', decide_eq_false_iff_not] at h
      rcases hs with q | q
      · rw [q] at h; simp at h
      · exact absurd q h.1.2
  · rw [if_neg hs]
    obtain ⟨hs1, hs2⟩ := not_or.1 hs
    have hs1 : isSys s.stream = false := by simpa using hs1
    rw [List.mem_filter, List.mem_append, List.mem_map, List.mem_singleton]
    unfold wantsL
    rw [hs1]
    simp only [Bool.and_eq_true, Bool.or_eq_true, decide_eq_true_eq, Bool.not_false, Bool.not_eq_true', decide_eq_false_iff_not, hs2, not_false_eq_true, and_true, true_and]
    constructor
    · rintro ⟨h1, h2⟩
      unfold isTarget at h2
      rw [Bool.and_eq_true, Bool.or_eq_true] at h2
      obtain ⟨h2, h3⟩ := h2
      rcases h1 with ⟨c, hc, rfl⟩ | rfl
      · have hc : cat s.stream = some c := by simpa using hc
        obtain ⟨g1, g2, g3⟩ := cat_good hc
        have e : (ofCat c).data.toList = ceP ++ c.data.toList := bts_ba _
        have hl : 1 ≤ c.data.toList.length := by
          cases hq : c.data.toList with
          | nil => exact absurd hq g1
          | cons _ _ => simp
        refine ⟨⟨h2, ?_⟩, .inl ⟨?_, ?_⟩⟩
        · rw [← hlen, e, List.length_append]
          simp [ceP] at hl ⊢
          omega
        · rw [e, List.take_append_of_le_length (by simp [ceP])]
          rfl
        · rw [hc, e]
          rfl
      · have e : (ofTyp s.ev.type).data.toList = etP ++ s.ev.type.data.toList := bts_ba _
        rw [e] at h3
        have ht : typB (etP ++ s.ev.type.data.toList) = true := by
          rcases h3 with q | q
          · unfold catB at q
            rw [Bool.and_eq_true] at q
            have := q.1
            simp [ceP, etP, List.isPrefixOf] at this
          · exact q
        unfold typB at ht
        simp only [Bool.and_eq_true] at ht
        have hn := ht.2.1
        have e2 : (etP ++ s.ev.type.data.toList).drop 4 = s.ev.type.data.toList := rfl
        rw [e2, ba_bts] at hn
        have hz := (nameOk_size hn).1
        refine ⟨⟨h2, ?_⟩, .inr ⟨?_, ?_⟩⟩
        · rw [← hlen, e, List.length_append]
          have : s.ev.type.data.toList.length = s.ev.type.size := by simp
          simp only [etP, List.length_cons, List.length_nil]
          omega
        · rw [e]
          rfl
        · rw [e]
          rfl
    · rintro ⟨⟨h1, h2⟩, h3⟩
      have htd : t.data.toList = t.data.toList.take 4 ++ t.data.toList.drop 4 := (List.take_append_drop 4 _).symm
      rcases h3 with ⟨h3, h4⟩ | ⟨h3, h4⟩
      · obtain ⟨g1, g2, g3⟩ := cat_good h4
        rw [bts_ba] at g1 g2 g3
        refine ⟨.inl ⟨ba (t.data.toList.drop 4), by simpa using h4, ?_⟩, ?_⟩
        · unfold ofCat
          rw [bts_ba, ← h3, List.take_append_drop, ba_bts]
        · unfold isTarget catB
          rw [h1, decide_eq_true g1, g2, decide_eq_false g3]
          have : ceP.isPrefixOf t.data.toList = true := by
            rw [htd, h3]
            exact pre_prefix _ _
          rw [this]
          rfl
      · refine ⟨.inr ?_, ?_⟩
        · unfold ofTyp
          rw [h4, ← h3, List.take_append_drop, ba_bts]
        · have hn : nameOk (ba (t.data.toList.drop 4)) = true := by
            refine nameOk_of ?_ ?_ ?_
            · rw [bts_ba, List.length_drop]
              omega
            · rw [bts_ba, List.length_drop]
              have := (nameOk_size h1).2
              omega
            · intro b hb
              rw [bts_ba] at hb
              exact nameOk_all h1 b (List.mem_of_mem_drop hb)
          have hp : etP.isPrefixOf t.data.toList = true := by
            rw [htd, h3]
            exact pre_prefix _ _
          unfold isTarget typB
          rw [h1, hn, hp, decide_eq_true (by rw [← h4]; exact hs2)]
          simp
theorem wantsL_sys {t : ByteArray} {s : StoredR} (h : wantsL t s = true) : nameOk t = true ∧ isSys s.stream = false ∧ isSys t = true ∧ s.stream ≠ t := by
  simp only [wantsL, Bool.and_eq_true, Bool.or_eq_true, decide_eq_true_eq, Bool.not_eq_true', decide_eq_false_iff_not] at h
  obtain ⟨⟨⟨⟨h1, h2⟩, h3⟩, h4⟩, h5⟩ := h
  have ht : isSys t = true := by
    unfold isSys
    rw [show t.data.toList = t.data.toList.take 4 ++ t.data.toList.drop 4 from (List.take_append_drop 4 _).symm]
    rcases h5 with h5 | h5 <;> rw [h5.1] <;> rfl
  refine ⟨h1, h3, ht, ?_⟩
  rintro rfl
  rw [ht] at h3
  cases h3
end Go.Proofs.YtpcemipfanimgaaGreatDoor
/- Links, plain: numbers in decimal, the text of a link, and back. No program is named. -/
set_option linter.unusedVariables false
set_option linter.unusedSimpArgs false
namespace Go.Proofs.YtpcemipfanimgaaGreatDoor
open Go.RowKit
def digitB (b : UInt8) : Bool := !(decide ((b.toNat : Int) < 48) || decide (57 < (b.toNat : Int)))
def val10 (l : List UInt8) : Int := l.foldl (fun n b => 10 * n + ((b.toNat : Int) - 48)) 0
def negB (l : List UInt8) : Bool := List.isPrefixOf [45] l
def magB (l : List UInt8) : List UInt8 := if negB l then l.drop 1 else l
def shapeB (l : List UInt8) : Bool := !(decide ((magB l).length = 0) || decide (18 < (magB l).length) || (decide ((magB l).head? = some 48) && (decide (1 < (magB l).length) || negB l)))
def numB (l : List UInt8) : Option Int := if shapeB l && (magB l).all digitB then some (if negB l then -(val10 (magB l)) else val10 (magB l)) else none
def unlinkB (s : ByteArray) : Option (Int × ByteArray) :=
  if (64 : UInt8) ∈ s.data.toList then
    match numB (preOf 64 s.data.toList) with
    | some v => if 0 ≤ v ∧ nameOk (ba (s.data.toList.drop ((preOf 64 s.data.toList).length + 1))) = true then some (v, ba (s.data.toList.drop ((preOf 64 s.data.toList).length + 1))) else none
    | none => none
  else none
def linkData (v : Int) (n : ByteArray) : ByteArray := ba (Lib.itoa v ++ 64 :: n.data.toList)
theorem dg_nat {k : Nat} (h : k < 10) : (UInt8.ofNat (48 + k)).toNat = 48 + k := by
  rw [UInt8.toNat_ofNat']
  omega
theorem dec_small {u : Nat} (h : u < 10) : Lib.decDigits u = [UInt8.ofNat (48 + u)] := Lib.decDigits_one h
theorem dec_big {u : Nat} (h : ¬u < 10) : Lib.decDigits u = Lib.decDigits (u / 10) ++ [UInt8.ofNat (48 + u % 10)] := by rw [Lib.decDigits, dif_neg h]
theorem val10_dec (u : Nat) : val10 (Lib.decDigits u) = u := by
  induction u using Nat.strongRecOn with
  | _ u ih =>
    by_cases h : u < 10
    · rw [dec_small h]
      simp only [val10, List.foldl_cons, List.foldl_nil, dg_nat h]
      omega
    · rw [dec_big h]
      have e := ih (u / 10) (by omega)
      unfold val10 at e ⊢
      rw [List.foldl_append, e]
      simp only [List.foldl_cons, List.foldl_nil, dg_nat (Nat.mod_lt u (by decide : 0 < 10))]
      omega
theorem dec_all (u : Nat) : ∀ b ∈ Lib.decDigits u, 48 ≤ b.toNat ∧ b.toNat ≤ 57 := by
  induction u using Nat.strongRecOn with
  | _ u ih =>
    intro b hb
    by_cases h : u < 10
    · rw [dec_small h] at hb
      rw [List.mem_singleton] at hb
      subst hb
      rw [dg_nat h]
      omega
    · rw [dec_big h] at hb
      rcases List.mem_append.1 hb with q | q
      · exact ih (u / 10) (by omega) b q
      · rw [List.mem_singleton] at q
        subst q
        rw [dg_nat (Nat.mod_lt u (by decide : 0 < 10))]
        omega
theorem dec_head (u : Nat) : ∃ b l, Lib.decDigits u = b :: l ∧ (b = 48 → u = 0) := by
  induction u using Nat.strongRecOn with
  | _ u ih =>
    by_cases h : u < 10
    · refine ⟨_, _, dec_small h, fun e => ?_⟩
      have := congrArg UInt8.toNat e
      rw [dg_nat h] at this
      have h48 : (48 : UInt8).toNat = 48 := rfl
      omega
    · obtain ⟨b, l, e, hb⟩ := ih (u / 10) (by omega)
      refine ⟨b, l ++ [UInt8.ofNat (48 + u % 10)], by rw [dec_big h, e]; rfl, fun q => ?_⟩
      have := hb q
      omega
theorem dec_len : ∀ (k u : Nat), u < 10 ^ (k + 1) → (Lib.decDigits u).length ≤ k + 1
  | 0, u, h => by rw [dec_small (by simpa using h)]; simp
  | k + 1, u, h => by
    by_cases h1 : u < 10
    · rw [dec_small h1]; simp
    · rw [dec_big h1, List.length_append]
      have := dec_len k (u / 10) (by rw [Nat.pow_succ] at h; omega)
      simp
      omega
theorem num_itoa {u : Nat} (h : u < 1000000000000000000) : numB (Lib.itoa u) = some (u : Int) := by
  rw [Lib.itoa_nonneg]
  obtain ⟨b, l, e, hb⟩ := dec_head u
  have hall := dec_all u
  have hb2 := hall b (by rw [e]; simp)
  have hn : negB (Lib.decDigits u) = false := by
    rw [e]
    simp only [negB, List.isPrefixOf, Bool.and_true, beq_eq_false_iff_ne]
    intro q
    have := congrArg UInt8.toNat q
    have h45 : (45 : UInt8).toNat = 45 := rfl
    omega
  have hm : magB (Lib.decDigits u) = Lib.decDigits u := by unfold magB; rw [hn]; rfl
  have hl := dec_len 17 u h
  have hs : shapeB (Lib.decDigits u) = true := by
    unfold shapeB
    rw [hm, hn]
    have h1 : ¬(Lib.decDigits u).length = 0 := by rw [e]; simp
    have h2 : ¬18 < (Lib.decDigits u).length := by omega
    rw [decide_eq_false h1, decide_eq_false h2]
    by_cases q : b = 48
    · have hu := hb q
      subst hu
      rw [dec_small (by decide)]
      rfl
    · have : ¬(Lib.decDigits u).head? = some 48 := by rw [e]; simpa using q
      rw [decide_eq_false this]
      rfl
  have hd : (Lib.decDigits u).all digitB = true := by
    rw [List.all_eq_true]
    intro c hc
    have := hall c hc
    unfold digitB
    rw [decide_eq_false (by omega), decide_eq_false (by omega)]
    rfl
  unfold numB
  rw [hs, hm, hd, hn, val10_dec]
  rfl
theorem pre_itoa {u : Nat} (l : List UInt8) : preOf 64 (Lib.itoa u ++ 64 :: l) = Lib.itoa u := by
  rw [Lib.itoa_nonneg]
  unfold preOf
  rw [List.takeWhile_append_of_pos]
  · simp
  · intro b hb
    have := dec_all u b hb
    simp
    rintro rfl
    have h64 : (64 : UInt8).toNat = 64 := rfl
    omega
theorem unlink_link {v : Int} (h0 : 0 ≤ v) (h1 : v < 1000000000000000000) {n : ByteArray} (hn : nameOk n = true) : unlinkB (linkData v n) = some (v, n) := by
  obtain ⟨u, rfl⟩ : ∃ u : Nat, v = u := ⟨v.toNat, by omega⟩
  unfold unlinkB linkData
  simp only [bts_ba]
  rw [if_pos (by simp), pre_itoa, num_itoa (by omega)]
  have e : (Lib.itoa (u : Int) ++ 64 :: n.data.toList).drop ((Lib.itoa (u : Int)).length + 1) = n.data.toList := by
    rw [← List.drop_drop, List.drop_left]
    rfl
  simp only [e, ba_bts, hn]
  rw [if_pos ⟨by omega, trivial⟩]
theorem linkData_size {v : Int} (h0 : 0 ≤ v) (h1 : v < 1000000000000000000) {n : ByteArray} (hn : nameOk n = true) : (linkData v n).size ≤ 79 := by
  obtain ⟨u, rfl⟩ : ∃ u : Nat, v = u := ⟨v.toNat, by omega⟩
  have h2 := (nameOk_size hn).2
  have h3 := dec_len 17 u (by omega)
  have e : (linkData u n).size = (linkData u n).data.toList.length := by simp
  rw [e]
  unfold linkData
  rw [bts_ba, Lib.itoa_nonneg, List.length_append, List.length_cons]
  have e2 : n.data.toList.length = n.size := by simp
  omega
end Go.Proofs.YtpcemipfanimgaaGreatDoor
/- Opening a law's arguments: slices of strings, of integers and of structs as plain lists. -/
set_option linter.unusedVariables false
set_option linter.unusedSimpArgs false
namespace Go.Proofs.YtpcemipfanimgaaGreatDoor
open Go.ChangeShapes Go.WideShapes Go.ChangeAt Go.RowKit Go.WideElems Go.ChangeMaps Go.Deep
theorem own : ownKnob Tryz.prog.godebug = none := by kernel_rfl
theorem laidOut : laidOutB Tryz.prog = true := by kernel_rfl
theorem addr_add (b off j : Nat) : (⟨b, off, none⟩ : Addr).add j = ⟨b, off + j, none⟩ := by
  cases j <;> simp [Addr.add]
section
variable {H : Type} {enc : TypeId × Value → H} {P : Program} {W : World} {base : Nat} {t e : TypeId} {v : Value} {d : DataW H} {ps : List MemPlace}
theorem open_strs (ht : P.underlying t = some (.slice e)) (he : P.underlying e = some .string) (hc : P.cellsOf e = 1)
    (hval : Value.okWide P W .any base t v) (hd : DataW.Trod enc P W 0 (fun _ => true) true t v d ps) (hlt : ∀ x ∈ ps, x.block < W.heap.size) :
    ∃ ss : List ByteArray, Slc W 1 v ss.length (strs ss) ∧ (∀ s ∈ ss, s.size ≤ maxLen) ∧ ∀ g, v.ownBlock = some g → g < W.heap.size ∨ ss = [] := by
  obtain ⟨fuel, hf⟩ := hd
  obtain ⟨a0, len, cap, rfl⟩ := okWide_slice ht hval
  rcases open_strings ht he hc hf with ⟨hcs, hx⟩ | ⟨a, len', cap', ss, hcs, _, hl, hm, hz, hx, hcell, hwz⟩
  · simp [Value.cells] at hcs
    obtain ⟨rfl, rfl, rfl⟩ := hcs
    exact ⟨[], Slc.nil W 1, by simp, fun g hg => .inr rfl⟩
  · simp [Value.cells] at hcs
    obtain ⟨rfl, rfl, rfl⟩ := hcs
    simp only [if_true] at hz
    obtain ⟨b, off, spot⟩ := a
    have htl : (ss.take len).length = len := by simp; omega
    have hb : 0 < len → b < W.heap.size ∧ spot = none := by
      intro h0
      have := hcell 0 (by omega)
      exact ⟨block_lt_of_cell this, by simpa [Addr.add] using World.cell?_spot this⟩
    refine ⟨ss.take len, ?_, fun s hs => hwz s (List.mem_of_mem_take hs), fun g hg => ?_⟩
    · rw [htl]
      refine ⟨_, _, rfl, by simp [strs]; omega, hl, hm, fun h0 => ?_⟩
      obtain ⟨q1, rfl⟩ := hb h0
      refine ⟨b, off, rfl, q1, fun j hj => ?_⟩
      have hj' : j < len := by simp [strs] at hj; omega
      have := hcell j (by omega)
      rw [addr_add] at this
      rw [this]
      simp [strs, hj', List.getD]
      rw [List.getElem?_eq_getElem (by omega)]
      rfl
    · by_cases h0 : 0 < len
      · have e : g = b := by
          have : some b = some g := hg
          simpa using this.symm
        rw [e]; exact .inl (hb h0).1
      · right
        have : len = 0 := by omega
        rw [this]; simp
theorem open_intz (ht : P.underlying t = some (.slice e)) (he : P.underlying e = some (.int .i64)) (hc : P.cellsOf e = 1)
    (hval : Value.okWide P W .any base t v) (hd : DataW.Trod enc P W 0 (fun _ => true) true t v d ps) (hlt : ∀ x ∈ ps, x.block < W.heap.size) :
    ∃ zs : List Int, Slc W 1 v zs.length (ints zs) ∧ (∀ z ∈ zs, (Lit.int .i64 z).wf = true) ∧ ∀ g, v.ownBlock = some g → g < W.heap.size ∨ zs = [] := by
  obtain ⟨fuel, hf⟩ := hd
  obtain ⟨a0, len, cap, rfl⟩ := okWide_slice ht hval
  rcases open_ints ht he hc hf with ⟨hcs, hx⟩ | ⟨a, len', cap', ss, hcs, _, hl, hm, hz, hx, hcell, hwz⟩
  · simp [Value.cells] at hcs
    obtain ⟨rfl, rfl, rfl⟩ := hcs
    exact ⟨[], Slc.nil W 1, by simp, fun g hg => .inr rfl⟩
  · simp [Value.cells] at hcs
    obtain ⟨rfl, rfl, rfl⟩ := hcs
    simp only [if_true] at hz
    obtain ⟨b, off, spot⟩ := a
    have htl : (ss.take len).length = len := by simp; omega
    have hb : 0 < len → b < W.heap.size ∧ spot = none := by
      intro h0
      have := hcell 0 (by omega)
      exact ⟨block_lt_of_cell this, by simpa [Addr.add] using World.cell?_spot this⟩
    refine ⟨ss.take len, ?_, fun s hs => hwz s (List.mem_of_mem_take hs), fun g hg => ?_⟩
    · rw [htl]
      refine ⟨_, _, rfl, by simp [ints]; omega, hl, hm, fun h0 => ?_⟩
      obtain ⟨q1, rfl⟩ := hb h0
      refine ⟨b, off, rfl, q1, fun j hj => ?_⟩
      have hj' : j < len := by simp [ints] at hj; omega
      have := hcell j (by omega)
      rw [addr_add] at this
      rw [this]
      simp [ints, hj', List.getD]
      rw [List.getElem?_eq_getElem (by omega)]
      rfl
    · by_cases h0 : 0 < len
      · have e : g = b := by
          have : some b = some g := hg
          simpa using this.symm
        rw [e]; exact .inl (hb h0).1
      · right
        have : len = 0 := by omega
        rw [this]; simp
end
section
variable {H : Type} {enc : TypeId × Value → H} {P : Program} {W : World} {t e : TypeId}
theorem list_of {E : Type} (Q : Nat → E → Prop) : ∀ len, (∀ i, i < len → ∃ o, Q i o) → ∃ os : List E, os.length = len ∧ ∀ i (h : i < os.length), Q i os[i]
  | 0, _ => ⟨[], rfl, fun i h => absurd h (Nat.not_lt_zero _)⟩
  | len + 1, h => by
    obtain ⟨os, h1, h2⟩ := list_of Q len (fun i hi => h i (by omega))
    obtain ⟨o, ho⟩ := h len (by omega)
    refine ⟨os ++ [o], by simp [h1], fun i hi => ?_⟩
    by_cases hl : i < os.length
    · rw [List.getElem_append_left hl]; exact h2 i hl
    · have : i = len := by simp at hi; omega
      subst this
      rw [List.getElem_append_right (by omega)]
      simpa [h1] using ho
/-- The slice whose cells read so, as a list of its elements. -/
theorem open_rows_at {fuel k : Nat} {cs : List Value} {x : DataW H × List MemPlace} (ht : P.underlying t = some (.slice e)) (hc : P.cellsOf e = k) (hk : 0 < k) {E : Type} (cells : E → List Value) (okE : E → Prop)
    (hel : ∀ n cs x, DataW.trod enc P W 0 (fun _ => true) true n e cs = some x → (∀ y ∈ x.2, y.block < W.heap.size) → ∃ o, cs = cells o ∧ okE o)
    (hd : DataW.trod enc P W 0 (fun _ => true) true fuel t cs = some x) (hlt : ∀ y ∈ x.2, y.block < W.heap.size) :
    ∃ (v : Value) (os : List E), cs = [v] ∧ Slc W k v os.length (os.flatMap cells) ∧ (∀ o ∈ os, okE o ∧ (cells o).length = k) ∧ ∀ g, v.ownBlock = some g → g < W.heap.size ∨ os = [] := by
  rcases open_slice ht hd with ⟨hcs, hx⟩ | ⟨a, len, cap, m, n, D, Pl, hcs, _, hl, hm, hmm, hx, hel0⟩
  · exact ⟨_, [], hcs, Slc.nil W k, by simp, fun g hg => .inr rfl⟩
  · simp only [if_true] at hmm
    subst hmm
    have hpl : ∀ i, i < m → ∀ y ∈ Pl i, y.block < W.heap.size := fun i hi y hy => hlt y (by
      rw [hx]
      exact List.mem_append_right _ (List.mem_flatMap.2 ⟨i, List.mem_range.2 hi, hy⟩))
    obtain ⟨os, h1, h2⟩ := list_of (E := E) (fun i o => W.cells? 0 (a.add (i * P.cellsOf e)) (P.cellsOf e) = some (cells o) ∧ okE o) len (fun i hi => by
      obtain ⟨cs', hc', ht'⟩ := hel0 i (by omega)
      obtain ⟨o, rfl, ho⟩ := hel n cs' _ ht' (hpl i (by omega))
      exact ⟨o, hc', ho⟩)
    have hlen : ∀ o ∈ os, (cells o).length = k := by
      intro o ho
      obtain ⟨i, hi, rfl⟩ := List.getElem_of_mem ho
      have := (World.cells?_some (h2 i hi).1).2.1
      rw [this, hc]
    obtain ⟨b, off, spot⟩ := a
    have hcell : ∀ i (hi : i < os.length) r, r < k → W.cell? (((⟨b, off, spot⟩ : Addr).add (i * k)).add r) = (cells os[i])[r]? := by
      intro i hi r hr
      have := (World.cells?_some (h2 i hi).1).2.2 r (by rw [hc]; exact hr)
      rwa [hc] at this
    have hb : 0 < len → b < W.heap.size ∧ spot = none := by
      intro h0
      have h00 := hcell 0 (by omega) 0 hk
      have hs : (cells os[0])[0]? = some ((cells os[0])[0]'(by rw [hlen _ (List.getElem_mem _)]; exact hk)) := List.getElem?_eq_getElem _
      rw [hs] at h00
      generalize (cells os[0])[0]'(by rw [hlen _ (List.getElem_mem _)]; exact hk) = u at h00
      have h01 : W.cell? ⟨b, off, spot⟩ = some u := by simpa [Addr.add] using h00
      exact ⟨block_lt_of_cell h01, by simpa using World.cell?_spot h01⟩
    refine ⟨_, os, hcs, ?_, fun o ho => ⟨?_, hlen o ho⟩, fun g hg => ?_⟩
    · refine ⟨_, _, by rw [h1], by rw [flat_len cells k os hlen], by omega, hm, fun h0 => ?_⟩
      obtain ⟨q1, rfl⟩ := hb (by omega)
      refine ⟨b, off, rfl, q1, fun j hj => ?_⟩
      rw [flat_len cells k os hlen] at hj
      have hi : j / k < os.length := Nat.div_lt_of_lt_mul (by rw [Nat.mul_comm]; exact hj)
      have hr : j % k < k := Nat.mod_lt _ hk
      have hjk : j / k * k + j % k = j := by rw [Nat.mul_comm]; exact Nat.div_add_mod j k
      have := hcell (j / k) hi (j % k) hr
      rw [addr_add, addr_add] at this
      have e2 := flat_get cells k os hlen (j / k) (j % k) hi hr
      rw [hjk] at e2
      rw [e2, ← this]
      congr 2
      omega
    · obtain ⟨i, hi, rfl⟩ := List.getElem_of_mem ho
      exact (h2 i hi).2
    · by_cases h0 : 0 < len
      · have e : g = b := by
          have : some b = some g := hg
          simpa using this.symm
        rw [e]; exact .inl (hb h0).1
      · right
        exact List.eq_nil_of_length_eq_zero (by omega)
theorem open_rows {k : Nat} {base : Nat} {v : Value} {d : DataW H} {ps : List MemPlace} (ht : P.underlying t = some (.slice e)) (hc : P.cellsOf e = k) (hk : 0 < k) {E : Type} (cells : E → List Value) (okE : E → Prop)
    (hel : ∀ n cs x, DataW.trod enc P W 0 (fun _ => true) true n e cs = some x → (∀ y ∈ x.2, y.block < W.heap.size) → ∃ o, cs = cells o ∧ okE o)
    (hval : Value.okWide P W .any base t v) (hd : DataW.Trod enc P W 0 (fun _ => true) true t v d ps) (hlt : ∀ x ∈ ps, x.block < W.heap.size) :
    ∃ os : List E, Slc W k v os.length (os.flatMap cells) ∧ (∀ o ∈ os, okE o ∧ (cells o).length = k) ∧ ∀ g, v.ownBlock = some g → g < W.heap.size ∨ os = [] := by
  obtain ⟨fuel, hf⟩ := hd
  obtain ⟨a0, len, cap, rfl⟩ := okWide_slice ht hval
  obtain ⟨v', os, h1, h2, h3, h4⟩ := open_rows_at ht hc hk cells okE hel hf hlt
  have : v' = .slice a0 len cap := by
    simp [Value.cells] at h1
    exact h1.symm
  subst this
  exact ⟨os, h2, h3, h4⟩
end
end Go.Proofs.YtpcemipfanimgaaGreatDoor
/- Opening []api.Command. -/
set_option linter.unusedVariables false
set_option linter.unusedSimpArgs false
namespace Go.Proofs.YtpcemipfanimgaaGreatDoor
open Go.ChangeShapes Go.WideShapes Go.ChangeAt Go.RowKit Go.WideElems Go.ChangeMaps Go.Deep Go.Sort
/-- A command, and the slice of its events. -/
structure CmdV where
  c : Cmd
  ev : Value
def CmdV.cells (x : CmdV) : List Value := [.int .i64 x.c.kind, .int .i64 x.c.time, .string x.c.stream, .int .i64 x.c.expected, x.ev, .int .i64 x.c.mt.maxCount, .int .i64 x.c.mt.maxAge, .int .i64 x.c.mt.before]
structure CmdV.Ok (W : World) (x : CmdV) : Prop where
  ok : CmdOk x.c
  slc : Slc W 4 x.ev x.c.events.length (x.c.events.flatMap EventR.cells)
  own : ∀ g, x.ev.ownBlock = some g → g < W.heap.size ∨ x.c.events = []
theorem cellsI : Tryz.prog.cellsOf 3 = 1 := by kernel_rfl
theorem cellsS : Tryz.prog.cellsOf 9 = 1 := by kernel_rfl
theorem cellsF : Tryz.prog.cellsOf 22 = 1 := by kernel_rfl
theorem cellsEv : Tryz.prog.cellsOf 24 = 4 := by kernel_rfl
theorem cellsEvs : Tryz.prog.cellsOf 36 = 1 := by kernel_rfl
theorem cellsMt : Tryz.prog.cellsOf 38 = 3 := by kernel_rfl
theorem cellsCmd : Tryz.prog.cellsOf 40 = 8 := by kernel_rfl
section
variable {H : Type} {enc : TypeId × Value → H} {W : World}
theorem trod_float {P : Program} {base : Nat} {spare : Nat → Bool} {held : Bool} {fuel : Nat} {t : TypeId} {cs : List Value} {x : DataW H × List MemPlace} (ht : P.underlying t = some (.float .f64)) (h : DataW.trod enc P W base spare held fuel t cs = some x) : ∃ b, cs = [.float .f64 b] := by
  cases fuel with
  | zero => simp [DataW.trod] at h
  | succ n =>
    unfold DataW.trod at h
    rw [ht] at h
    split at h <;> simp_all
theorem one_at {cs : List Value} {i : Nat} {v : Value} (h : (cs.drop i).take 1 = [v]) : cs[i]? = some v := by
  have : ((cs.drop i).take 1)[0]? = some v := by rw [h]; rfl
  rw [List.getElem?_take] at this
  simpa using this
theorem open_ev (n : Nat) (cs : List Value) (x : DataW H × List MemPlace) (h : DataW.trod enc Tryz.prog W 0 (fun _ => true) true n 24 cs = some x) (hlt : ∀ y ∈ x.2, y.block < W.heap.size) :
    ∃ e : EventR, cs = e.cells ∧ (e.type.size ≤ maxLen ∧ e.data.size ≤ maxLen) := by
  obtain ⟨xs, m, _, hx, hl, hlen, hf⟩ := DataW.trod_struct Tryz.underlying24 h
  rw [cellsEv] at hl
  have g0 : DataW.trod enc Tryz.prog W 0 (fun _ => true) true m 3 ((cs.drop 0).take (Tryz.prog.cellsOf 3)) = xs[0]? := hf 0 _ rfl
  have g1 : DataW.trod enc Tryz.prog W 0 (fun _ => true) true m 9 ((cs.drop 1).take (Tryz.prog.cellsOf 9)) = xs[1]? := hf 1 _ rfl
  have g2 : DataW.trod enc Tryz.prog W 0 (fun _ => true) true m 9 ((cs.drop 2).take (Tryz.prog.cellsOf 9)) = xs[2]? := hf 2 _ rfl
  have g3 : DataW.trod enc Tryz.prog W 0 (fun _ => true) true m 22 ((cs.drop 3).take (Tryz.prog.cellsOf 22)) = xs[3]? := hf 3 _ rfl
  rw [cellsI] at g0
  rw [cellsS] at g1 g2
  rw [cellsF] at g3
  clear hf
  match xs, hlen with
  | [y0, y1, y2, y3], _ =>
    simp only [List.getElem?_cons_zero, List.getElem?_cons_succ] at g0 g1 g2 g3
    obtain ⟨k, c0, _, w0⟩ := DataW.trod_int Tryz.underlying3 g0
    obtain ⟨s1, c1, _, w1⟩ := DataW.trod_string Tryz.underlying9 g1
    obtain ⟨s2, c2, _, w2⟩ := DataW.trod_string Tryz.underlying9 g2
    obtain ⟨b, c3⟩ := trod_float Tryz.underlying22 g3
    refine ⟨⟨k, s1, s2, b⟩, ?_, w1, w2⟩
    apply List.ext_getElem?
    intro i
    unfold EventR.cells
    have a0 := one_at c0
    have a1 := one_at c1
    have a2 := one_at c2
    have a3 := one_at c3
    match i with
    | 0 => exact a0
    | 1 => exact a1
    | 2 => exact a2
    | 3 => exact a3
    | i + 4 => simp; omega
theorem open_mt (n : Nat) (cs : List Value) (x : DataW H × List MemPlace) (h : DataW.trod enc Tryz.prog W 0 (fun _ => true) true n 38 cs = some x) : ∃ m : MetaR, cs = m.cells := by
  obtain ⟨xs, m, _, hx, hl, hlen, hf⟩ := DataW.trod_struct Tryz.underlying38 h
  rw [cellsMt] at hl
  have g0 : DataW.trod enc Tryz.prog W 0 (fun _ => true) true m 3 ((cs.drop 0).take (Tryz.prog.cellsOf 3)) = xs[0]? := hf 0 _ rfl
  have g1 : DataW.trod enc Tryz.prog W 0 (fun _ => true) true m 3 ((cs.drop 1).take (Tryz.prog.cellsOf 3)) = xs[1]? := hf 1 _ rfl
  have g2 : DataW.trod enc Tryz.prog W 0 (fun _ => true) true m 3 ((cs.drop 2).take (Tryz.prog.cellsOf 3)) = xs[2]? := hf 2 _ rfl
  rw [cellsI] at g0 g1 g2
  clear hf
  match xs, hlen with
  | [y0, y1, y2], _ =>
    simp only [List.getElem?_cons_zero, List.getElem?_cons_succ] at g0 g1 g2
    obtain ⟨k0, c0, _, _⟩ := DataW.trod_int Tryz.underlying3 g0
    obtain ⟨k1, c1, _, _⟩ := DataW.trod_int Tryz.underlying3 g1
    obtain ⟨k2, c2, _, _⟩ := DataW.trod_int Tryz.underlying3 g2
    refine ⟨⟨k0, k1, k2⟩, ?_⟩
    apply List.ext_getElem?
    intro i
    unfold MetaR.cells
    have a0 := one_at c0
    have a1 := one_at c1
    have a2 := one_at c2
    match i with
    | 0 => exact a0
    | 1 => exact a1
    | 2 => exact a2
    | i + 3 => simp; omega
theorem open_cmd (n : Nat) (cs : List Value) (x : DataW H × List MemPlace) (h : DataW.trod enc Tryz.prog W 0 (fun _ => true) true n 40 cs = some x) (hlt : ∀ y ∈ x.2, y.block < W.heap.size) :
    ∃ o : CmdV, cs = o.cells ∧ o.Ok W := by
  obtain ⟨xs, m, _, hx, hl, hlen, hf⟩ := DataW.trod_struct Tryz.underlying40 h
  rw [cellsCmd] at hl
  have g0 : DataW.trod enc Tryz.prog W 0 (fun _ => true) true m 3 ((cs.drop 0).take (Tryz.prog.cellsOf 3)) = xs[0]? := hf 0 _ rfl
  have g1 : DataW.trod enc Tryz.prog W 0 (fun _ => true) true m 3 ((cs.drop 1).take (Tryz.prog.cellsOf 3)) = xs[1]? := hf 1 _ rfl
  have g2 : DataW.trod enc Tryz.prog W 0 (fun _ => true) true m 9 ((cs.drop 2).take (Tryz.prog.cellsOf 9)) = xs[2]? := hf 2 _ rfl
  have g3 : DataW.trod enc Tryz.prog W 0 (fun _ => true) true m 3 ((cs.drop 3).take (Tryz.prog.cellsOf 3)) = xs[3]? := hf 3 _ rfl
  have g4 : DataW.trod enc Tryz.prog W 0 (fun _ => true) true m 36 ((cs.drop 4).take (Tryz.prog.cellsOf 36)) = xs[4]? := hf 4 _ rfl
  have g5 : DataW.trod enc Tryz.prog W 0 (fun _ => true) true m 38 ((cs.drop 5).take (Tryz.prog.cellsOf 38)) = xs[5]? := hf 5 _ rfl
  rw [cellsI] at g0 g1 g3
  rw [cellsS] at g2
  rw [cellsEvs] at g4
  rw [cellsMt] at g5
  clear hf
  match xs, hlen with
  | [y0, y1, y2, y3, y4, y5], _ =>
    simp only [List.getElem?_cons_zero, List.getElem?_cons_succ] at g0 g1 g2 g3 g4 g5
    obtain ⟨k, c0, _, w0⟩ := DataW.trod_int Tryz.underlying3 g0
    obtain ⟨tm, c1, _, w1⟩ := DataW.trod_int Tryz.underlying3 g1
    obtain ⟨s2, c2, _, w2⟩ := DataW.trod_string Tryz.underlying9 g2
    obtain ⟨ex, c3, _, w3⟩ := DataW.trod_int Tryz.underlying3 g3
    obtain ⟨v, es, c4, q1, q2, q3⟩ := open_rows_at Tryz.underlying36 cellsEv (by omega) EventR.cells (fun e => e.type.size ≤ maxLen ∧ e.data.size ≤ maxLen) open_ev g4 (fun y hy => hlt y (by rw [hx]; simp; right; right; right; right; left; exact hy))
    obtain ⟨mt, c5⟩ := open_mt _ _ _ g5
    refine ⟨⟨⟨k, tm, s2, ex, es, mt⟩, v⟩, ?_, ⟨⟨w2, fun e he => (q2 e he).1⟩, q1, q3⟩⟩
    apply List.ext_getElem?
    intro i
    unfold CmdV.cells
    have a0 := one_at c0
    have a1 := one_at c1
    have a2 := one_at c2
    have a3 := one_at c3
    have a4 := one_at c4
    have b : ∀ j, j < 3 → cs[5 + j]? = mt.cells[j]? := fun j hj => by
      rw [← c5, List.getElem?_take, if_pos hj, List.getElem?_drop]
    match i with
    | 0 => exact a0
    | 1 => exact a1
    | 2 => exact a2
    | 3 => exact a3
    | 4 => exact a4
    | 5 => exact b 0 (by omega)
    | 6 => exact b 1 (by omega)
    | 7 => exact b 2 (by omega)
    | i + 8 => simp; omega
set_option maxRecDepth 100000 in
theorem open_cmdv {base : Nat} {v : Value} {d : DataW H} {ps : List MemPlace} (hval : Value.okWide Tryz.prog W .any base 40 v) (hd : DataW.Trod enc Tryz.prog W 0 (fun _ => true) true 40 v d ps) (hlt : ∀ x ∈ ps, x.block < W.heap.size) :
    ∃ o : CmdV, v = o.c.val o.ev ∧ o.Ok W := by
  obtain ⟨fuel, hf⟩ := hd
  obtain ⟨cs, rfl, _⟩ := okWide_struct Tryz.underlying40 hval
  obtain ⟨o, h1, h2⟩ := open_cmd _ _ _ hf hlt
  refine ⟨o, ?_, h2⟩
  have h3 : cs.toList = o.cells := by simpa [Value.cells] using h1
  have h4 : cs = o.cells.toArray := by rw [← h3]
  rw [h4]
  rfl
set_option maxRecDepth 100000 in
theorem open_cmds {base : Nat} {v : Value} {d : DataW H} {ps : List MemPlace} (hval : Value.okWide Tryz.prog W .any base 31 v) (hd : DataW.Trod enc Tryz.prog W 0 (fun _ => true) true 31 v d ps) (hlt : ∀ x ∈ ps, x.block < W.heap.size) :
    ∃ os : List CmdV, Slc W 8 v os.length (os.flatMap CmdV.cells) ∧ (∀ o ∈ os, o.Ok W ∧ o.cells.length = 8) ∧ ∀ g, v.ownBlock = some g → g < W.heap.size ∨ os = [] :=
  open_rows Tryz.underlying31 cellsCmd (by omega) CmdV.cells (CmdV.Ok W) open_cmd hval hd hlt
end
/-- Commands that lie below the world a. -/
structure CmdsAt (a w : World) (v : Value) (l : List CmdV) : Prop where
  slc : Slc w 8 v l.length (l.flatMap CmdV.cells)
  own : ∀ g, v.ownBlock = some g → g < a.heap.size ∨ l = []
  cmd : ∀ x ∈ l, CmdOk x.c ∧ Slc w 4 x.ev x.c.events.length (x.c.events.flatMap EventR.cells) ∧ ∀ g, x.ev.ownBlock = some g → g < a.heap.size ∨ x.c.events = []
section
variable {a w w' : World} {R : List Nat} {v : Value} {l : List CmdV}
theorem CmdsAt.of {W : World} (h1 : Slc W 8 v l.length (l.flatMap CmdV.cells)) (h2 : ∀ o ∈ l, o.Ok W ∧ o.cells.length = 8) (h3 : ∀ g, v.ownBlock = some g → g < W.heap.size ∨ l = []) : CmdsAt W W v l :=
  ⟨h1, h3, fun x hx => ⟨(h2 x hx).1.ok, (h2 x hx).1.slc, (h2 x hx).1.own⟩⟩
theorem Keeps.slcE {size n : Nat} {u : Value} {cs : List Value} {E : Type} {os : List E} (h : Keeps a R w w') (hn : n = os.length) (hs : Slc w size u n cs) (hg : ∀ g, u.ownBlock = some g → g < a.heap.size ∨ os = []) : Slc w' size u n cs := by
  by_cases h0 : os = []
  · subst h0
    subst hn
    exact hs.empty
  · exact h.slc hs (fun g q => .inl ((hg g q).resolve_right h0))
theorem CmdsAt.keep (h : CmdsAt a w v l) (k : Keeps a R w w') : CmdsAt a w' v l :=
  ⟨k.slcE rfl h.slc h.own, h.own, fun x hx => ⟨(h.cmd x hx).1, k.slcE rfl (h.cmd x hx).2.1 (h.cmd x hx).2.2, (h.cmd x hx).2.2⟩⟩
theorem CmdsAt.keep0 (h : CmdsAt a w v l) (k : Only [] w w') : CmdsAt a w' v l := h.keep (R := []) (.of0 k)
theorem CmdsAt.ev (h : CmdsAt a w v l) {E : List Nat} {x : CmdV} (hx : x ∈ l) : EvIn a w E x.ev x.c.events := ⟨(h.cmd x hx).2.1, fun g hg => by
  rcases (h.cmd x hx).2.2 g hg with q | q
  · exact .inl (.inl q)
  · exact .inr (by rw [q]; rfl)⟩
/-- The cells of the command at j. -/
theorem CmdsAt.cells (h : CmdsAt a w v l) : ∃ A cap, v = .slice A l.length cap ∧ l.length ≤ cap ∧ cap ≤ maxLen ∧ ∀ j (hj : j < l.length), ∃ b off, A = some ⟨b, off, none⟩ ∧ b < w.heap.size ∧ b < a.heap.size ∧ ∀ r, r < 8 → w.cell? ⟨b, off + j * 8 + r, none⟩ = (l[j].cells)[r]? := by
  obtain ⟨A, cap, rfl, h1, h2, h3⟩ := h.slc.openE CmdV.cells (fun _ => rfl)
  refine ⟨A, cap, rfl, h1, h2, fun j hj => ?_⟩
  obtain ⟨b, off, rfl, q1, q2⟩ := h3 j hj
  refine ⟨b, off, rfl, q1, ?_, q2⟩
  rcases h.own b rfl with q | q
  · exact q
  · rw [q] at hj
    simp at hj
end
end Go.Proofs.YtpcemipfanimgaaGreatDoor
/- alive: a first call whose answer is fixed. -/
set_option linter.unusedVariables false
set_option linter.unusedSimpArgs false
namespace Go.Proofs.YtpcemipfanimgaaGreatDoor
open Go.RowKit Go Go.Sort
theorem lput_any (n : ByteArray) (ex : Int) (A : Option Addr) (k cap : Nat) (w : World) : Calls Tryz.prog 40 #[.string n, .int .i64 ex, .slice A k cap] w fun e w' =>
    e = .returned (.agg #[.int .i64 1, .int .i64 0, .string n, .int .i64 ex, .slice A k cap, .int .i64 0, .int .i64 0, .int .i64 0]) ∧ Only [] w w' := by
  go_enter Tryz.func40, Tryz.ntmps40
  go_wp2
  exact bodyPost_ret (v := .agg #[.int .i64 1, .int .i64 0, .string n, .int .i64 ex, .slice A k cap, .int .i64 0, .int .i64 0, .int .i64 0]) (by simp [results, Tryz.results40, go_sem]) rfl ⟨rfl, (Only.refl [] w).alloc _⟩
def alEv1 : EventR := ⟨1, ⟨#[116]⟩, ⟨#[]⟩, 0⟩
def alEv2 : EventR := ⟨2, ⟨#[116]⟩, ⟨#[]⟩, 0⟩
def alC1 : Cmd := ⟨1, 0, ⟨#[97]⟩, -1, [alEv1], MetaR.zero⟩
def alC2 : Cmd := ⟨1, 0, ⟨#[97]⟩, 5, [alEv2], MetaR.zero⟩
def alS1 : MS := (MS.new.do alC1).2
def alS2 : MS := (alS1.do alC1).2
def alS3 : MS := (alS2.do alC2).2
theorem al_x : (MS.new.do alC1).1 = ⟨0, 0, 0, false⟩ := by kernel_rfl
theorem al_y : (alS1.do alC1).1 = ⟨0, 0, 0, true⟩ := by kernel_rfl
theorem al_z : (alS2.do alC2).1 = ⟨22, 0, 0, false⟩ := by kernel_rfl
theorem al_len : alS3.all.length = 1 := by kernel_rfl
theorem al_done : alS3.done = 3 := by kernel_rfl
theorem al_read : (alS3.readF ⟨#[97]⟩ 0 5).2 = 0 ∧ (alS3.readF ⟨#[97]⟩ 0 5).1.events.length = 1 := by constructor <;> kernel_rfl
theorem alC1_ok : CmdOk alC1 := ⟨by decide, fun e he => by simp [alC1] at he; subst he; decide⟩
theorem alC2_ok : CmdOk alC2 := ⟨by decide, fun e he => by simp [alC2] at he; subst he; decide⟩
theorem ev_slc {w : World} {g : Nat} {e : EventR} (h : Blk w g 24 #[.int .i64 e.id, .string e.type, .string e.data, .float .f64 e.value]) : Slc w 4 (.slice (some ⟨g, 0, none⟩) 1 1) [e].length ([e].flatMap EventR.cells) :=
  ⟨_, _, rfl, rfl, Nat.le_refl _, by unfold maxLen; omega, fun _ => ⟨g, 0, rfl, h.lt, fun j hj => by rw [Nat.zero_add, h.cell]; simp [EventR.cells]⟩⟩
section
variable {a w : World} {R E : List Nat} {sb mb N : Nat} {s : MS}
theorem ev_in {g : Nat} {e : EventR} (h : Blk w g 24 #[.int .i64 e.id, .string e.type, .string e.data, .float .f64 e.value]) (hg : g ∈ E) : EvIn a w E (.slice (some ⟨g, 0, none⟩) 1 1) [e] :=
  ⟨ev_slc h, fun i hi => by cases hi; exact .inl (.inr hg)⟩
end
def alX : Array Value := #[.int .i64 0, .int .i64 0, .int .i64 0, .bool false]
def alY : Array Value := #[.int .i64 0, .int .i64 0, .int .i64 0, .bool true]
theorem al_rd {a w : World} {R E : List Nat} {sb mb : Nat} (h : HasS a w R E sb mb alS3 3) :
    Calls Tryz.prog 35 #[.pointer (some ⟨sb, 0, none⟩), .string ⟨#[97]⟩, .int .i64 0, .int .i64 5, .bool false] w fun e w' => ∃ A cap nx en, e = .returned (.tuple #[.agg #[.slice A 1 cap, .int .i64 nx, .bool en], .int .i64 0]) ∧ Only [] w w' :=
  (has_read h (by omega) ⟨#[97]⟩ (by decide) 0 5).mono fun e w' ⟨pv, h1, h2, h3⟩ => by
    obtain ⟨A, cap, rfl, _⟩ := own_form h2
    rw [al_read.1, al_read.2] at h1
    exact ⟨A, cap, _, _, h1, h3⟩
theorem al_ln {a w : World} {R E : List Nat} {sb mb : Nat} (h : HasS a w R E sb mb alS3 3) : Calls Tryz.prog 112 #[.pointer (some ⟨sb, 0, none⟩)] w fun e w' => e = .returned (.int .i64 1) ∧ w = w' := by
  have := has_len h
  rw [al_len] at this
  exact this
/-- In whatever order the two calls, their boxes and their stores come. -/
structure AlInv (a0 : World) (b e1 sb mb : Nat) (W0 : World) (A0 : Act) (f2 f5 f6 f7 f8 f9 : Bool) (ac : Act) (W : World) (v3 v4 v16 v19 : Value) (R : List Nat) : Prop where
  act : ac = (((A0.put (some 3) v3).put (some 4) v4).put (some 16) v16).put (some 19) v19
  has : HasS a0 W R [e1] sb mb (if f5 then alS2 else if f2 then alS1 else MS.new) (if f5 then 2 else if f2 then 1 else 0)
  kept : Keeps a0 [b, e1] W0 W
  inR : b ∈ R
  h52 : f5 = true → f2 = true
  h2 : f2 = true → v16 = .agg alX
  h5 : f5 = true → v19 = .agg alY
  h6 : f6 = true → ∃ b3, v3 = .pointer (some ⟨b3, 0, none⟩) ∧ b3 ∈ R ∧ b3 ≠ b ∧ Blk W b3 43 alX
  h7 : f7 = true → ∃ b4, v4 = .pointer (some ⟨b4, 0, none⟩) ∧ b4 ∈ R ∧ b4 ≠ b ∧ Blk W b4 43 (if f9 then alY else alX)
  h67 : f6 = true → f7 = true → v3 ≠ v4
  h8 : f8 = true → f6 = true ∧ f5 = true
  h9 : f9 = true → f7 = true ∧ f8 = true
def AlI (a0 : World) (b e1 sb mb : Nat) (W0 : World) (A0 : Act) (listed : Array Bool) (ac : Act) (W : World) : Prop :=
  ∃ v3 v4 v16 v19 R, AlInv a0 b e1 sb mb W0 A0 (listed.getD 2 false) (listed.getD 5 false) (listed.getD 6 false) (listed.getD 7 false) (listed.getD 8 false) (listed.getD 9 false) ac W v3 v4 v16 v19 R
theorem al_ev {a w : World} {e1 : Nat} (h : Blk w e1 24 #[.int .i64 1, .string ⟨#[116]⟩, .string ⟨#[]⟩, .float .f64 0]) : EvIn a w [e1] (.slice (some ⟨e1, 0, none⟩) 1 1) alC1.events := ev_in (e := alEv1) h (by simp)
theorem al_do1 {a w : World} {R : List Nat} {e1 sb mb : Nat} (h : HasS a w R [e1] sb mb MS.new 0) (he : Blk w e1 24 #[.int .i64 1, .string ⟨#[116]⟩, .string ⟨#[]⟩, .float .f64 0]) :
    Calls Tryz.prog 15 #[.pointer (some ⟨sb, 0, none⟩), .agg #[.int .i64 1, .int .i64 0, .string ⟨#[97]⟩, .int .i64 (-1), .slice (some ⟨e1, 0, none⟩) 1 1, .int .i64 0, .int .i64 0, .int .i64 0]] w fun e w' => e = .returned (.agg #[.int .i64 0, .int .i64 0, .int .i64 0, .bool false]) ∧ HasS a w' R [e1] sb mb alS1 1 ∧ Keeps a (R ++ [e1]) w w' := by
  have := has_do (c := alC1) h (by omega) alC1_ok (al_ev he)
  rw [al_x] at this
  exact this
theorem al_do2 {a w : World} {R : List Nat} {e1 sb mb : Nat} (h : HasS a w R [e1] sb mb alS1 1) (he : Blk w e1 24 #[.int .i64 1, .string ⟨#[116]⟩, .string ⟨#[]⟩, .float .f64 0]) :
    Calls Tryz.prog 15 #[.pointer (some ⟨sb, 0, none⟩), .agg #[.int .i64 1, .int .i64 0, .string ⟨#[97]⟩, .int .i64 (-1), .slice (some ⟨e1, 0, none⟩) 1 1, .int .i64 0, .int .i64 0, .int .i64 0]] w fun e w' => e = .returned (.agg #[.int .i64 0, .int .i64 0, .int .i64 0, .bool true]) ∧ HasS a w' R [e1] sb mb alS2 2 ∧ Keeps a (R ++ [e1]) w w' := by
  have := has_do (c := alC1) h (by omega) alC1_ok (al_ev he)
  rw [al_y] at this
  exact this
theorem al_do3 {a w : World} {R : List Nat} {e1 e2 sb mb : Nat} (h : HasS a w R [e2, e1] sb mb alS2 2) (he : Blk w e2 24 #[.int .i64 2, .string ⟨#[116]⟩, .string ⟨#[]⟩, .float .f64 0]) :
    Calls Tryz.prog 15 #[.pointer (some ⟨sb, 0, none⟩), .agg #[.int .i64 1, .int .i64 0, .string ⟨#[97]⟩, .int .i64 5, .slice (some ⟨e2, 0, none⟩) 1 1, .int .i64 0, .int .i64 0, .int .i64 0]] w fun e w' => e = .returned (.agg #[.int .i64 22, .int .i64 0, .int .i64 0, .bool false]) ∧ HasS a w' R [e2, e1] sb mb alS3 3 ∧ Keeps a (R ++ [e2, e1]) w w' := by
  have := has_do (c := alC2) h (by omega) alC2_ok (ev_in (e := alEv2) he (by simp))
  rw [al_z] at this
  exact this
end Go.Proofs.YtpcemipfanimgaaGreatDoor
/- Small, Light, run. -/
set_option linter.unusedVariables false
set_option linter.unusedSimpArgs false
namespace Go.Proofs.YtpcemipfanimgaaGreatDoor
open Go.RowKit Go.Sort
def RetB (e : Ending) (Q : Bool → Prop) : Prop := ∃ b : Bool, e = .returned (.bool b) ∧ Q b
theorem RetB.mk {b : Bool} {Q : Bool → Prop} (h : Q b) : RetB (.returned (.bool b)) Q := ⟨b, rfl, h⟩
set_option maxRecDepth 100000 in
set_option maxHeartbeats 2000000 in
theorem small_any {w : World} {c : Cmd} {ev : Value} (hc : CmdOk c) (he : Slc w 4 ev c.events.length (c.events.flatMap EventR.cells)) :
    Calls Tryz.prog 44 #[c.val ev] w fun e w' => RetB e (fun _ => True) ∧ Only [] w w' := by
  obtain ⟨A, cap, rfl, hnc, hcm, hel⟩ := he.openE EventR.cells (fun _ => rfl)
  unfold maxLen at hcm
  have hst := hc.stream
  unfold maxLen at hst
  have hes := hc.evs
  obtain ⟨W1, hW1⟩ : ∃ W1, W1 = w.alloc (.cells #[.int .i64 c.kind, .int .i64 c.time, .string c.stream, .int .i64 c.expected, .slice A c.events.length cap, .int .i64 c.mt.maxCount, .int .i64 c.mt.maxAge, .int .i64 c.mt.before] 40) := ⟨_, rfl⟩
  have hB := Blk.new w 40 #[.int .i64 c.kind, .int .i64 c.time, .string c.stream, .int .i64 c.expected, .slice A c.events.length cap, .int .i64 c.mt.maxCount, .int .i64 c.mt.maxAge, .int .i64 c.mt.before]
  have hO1 := (Only.refl [] w).alloc (.cells #[.int .i64 c.kind, .int .i64 c.time, .string c.stream, .int .i64 c.expected, .slice A c.events.length cap, .int .i64 c.mt.maxCount, .int .i64 c.mt.maxAge, .int .i64 c.mt.before] 40)
  rw [← hW1] at hB hO1
  rw [show c.val (.slice A c.events.length cap) = .agg #[.int .i64 c.kind, .int .i64 c.time, .string c.stream, .int .i64 c.expected, .slice A c.events.length cap, .int .i64 c.mt.maxCount, .int .i64 c.mt.maxAge, .int .i64 c.mt.before] from rfl]
  have HW := Lib.hid hW1
  clear hW1
  go_enter Tryz.func44, Tryz.ntmps44
  go_wp2
  rw [← HW.out]
  go_loopw [3] (fun i wr => ∃ k : Nat, k ≤ 20 ∧ i = .int .i64 k ∧ Only [] W1 wr) (fun i _ => 20 - (intOf i).toNat)
  case atStart => exact ⟨0, by omega, rfl, Only.refl _ _⟩
  case round =>
    obtain ⟨k, hk, rfl, hO⟩ := hrel
    have hb := fun i => (hO.blk hB (by simp)).cell i
    have hend : ∀ W, Only [] wr W → Only [] w W := fun W h => (hO1.trans hO).trans h
    have HEnd := Lib.hid hend
    clear hend
    by_cases hlt : k < c.events.length
    · by_cases h20 : k < 20
      · obtain ⟨b, off, rfl, hbb, hcc⟩ := hel k hlt
        obtain ⟨y, hy⟩ : ∃ y, y = c.events[k] := ⟨_, rfl⟩
        have hys := hes y (by rw [hy]; exact List.getElem_mem hlt)
        rw [← hy] at hcc
        have c1 : wr.cell? ⟨b, off + k * 4 + 1, none⟩ = some (.string y.type) := ((hO1.trans hO).cell hbb (by simp)).trans (hcc 1 (by omega))
        have c2 : wr.cell? ⟨b, off + k * 4 + 2, none⟩ = some (.string y.data) := ((hO1.trans hO).cell hbb (by simp)).trans (hcc 2 (by omega))
        obtain ⟨hy1, hy2⟩ := hys
        unfold maxLen at hy1 hy2
        clear hcc hes hy hel he
        by_cases h1 : y.type.size > 100
        · go_wp2
          go_ret
          exact ⟨.mk trivial, HEnd.out _ (Only.refl _ _)⟩
        · by_cases h2 : y.data.size > 300
          · go_wp2
            go_ret
            exact ⟨.mk trivial, HEnd.out _ (Only.refl _ _)⟩
          · go_wp2
            exact ⟨⟨k + 1, by omega, by simp, hO⟩, by simp [intOf]; omega⟩
      · clear hel he hes
        by_cases h12 : c.events.length ≤ 12
        · omega
        · go_wp2
          go_ret
          exact ⟨.mk trivial, HEnd.out _ (Only.refl _ _)⟩
    · clear hel he hes
      by_cases h12 : c.events.length ≤ 12
      · go_wp2
        go_ret
        exact ⟨.mk trivial, HEnd.out _ (Only.refl _ _)⟩
      · go_wp2
        go_ret
        exact ⟨.mk trivial, HEnd.out _ (Only.refl _ _)⟩
section
variable {a w : World} {v : Value} {l : List CmdV}
set_option maxRecDepth 100000 in
set_option maxHeartbeats 2000000 in
theorem light_any (h : CmdsAt a w v l) (few : Nat) (hf : few ≤ 1000) :
    Calls Tryz.prog 13 #[.int .i64 few, v] w fun e w' => RetB e (fun b => b = true → l.length ≤ few) ∧ Only [] w w' := by
  obtain ⟨A, cap, rfl, hnc, hcm, hel⟩ := h.cells
  unfold maxLen at hcm
  go_enter Tryz.func13, Tryz.ntmps13
  go_wp2
  go_loopw [5] (fun i wr => ∃ k : Nat, k ≤ few ∧ i = .int .i64 k ∧ Only [] w wr) (fun i _ => few - (intOf i).toNat)
  case atStart => exact ⟨0, by omega, rfl, Only.refl _ _⟩
  case round =>
    obtain ⟨k, hk, rfl, hO⟩ := hrel
    by_cases hlt : k < l.length
    · by_cases h20 : k < few
      · have hcell : ∀ b (h1 : b < w.heap.size) (h2 : b < a.heap.size) (i : Nat), wr.cell? ⟨b, i, none⟩ = w.cell? ⟨b, i, none⟩ := fun b h1 h2 i => hO.cell h1 (by simp)
        obtain ⟨b, off, rfl, hbb, hba, hcc⟩ := hel k hlt
        obtain ⟨x, hx⟩ : ∃ x, x = l[k] := ⟨_, rfl⟩
        have hxm : x ∈ l := by rw [hx]; exact List.getElem_mem hlt
        rw [← hx] at hcc
        have hxo := (h.cmd x hxm).1
        obtain ⟨Ax, capx, hxv, hx1, hx2, _⟩ := (h.cmd x hxm).2.1.openE EventR.cells (fun _ => rfl)
        have c0 : wr.cell? ⟨b, off + k * 8, none⟩ = some (.int .i64 x.c.kind) := (hcell b hbb hba _).trans (hcc 0 (by omega))
        have c1 : wr.cell? ⟨b, off + k * 8 + 1, none⟩ = some (.int .i64 x.c.time) := (hcell b hbb hba _).trans (hcc 1 (by omega))
        have c2 : wr.cell? ⟨b, off + k * 8 + 2, none⟩ = some (.string x.c.stream) := (hcell b hbb hba _).trans (hcc 2 (by omega))
        have c3 : wr.cell? ⟨b, off + k * 8 + 3, none⟩ = some (.int .i64 x.c.expected) := (hcell b hbb hba _).trans (hcc 3 (by omega))
        have c4 : wr.cell? ⟨b, off + k * 8 + 4, none⟩ = some (.slice Ax x.c.events.length capx) := (hcell b hbb hba _).trans ((hcc 4 (by omega)).trans (by rw [← hxv]; rfl))
        have c5 : wr.cell? ⟨b, off + k * 8 + 5, none⟩ = some (.int .i64 x.c.mt.maxCount) := (hcell b hbb hba _).trans (hcc 5 (by omega))
        have c6 : wr.cell? ⟨b, off + k * 8 + 6, none⟩ = some (.int .i64 x.c.mt.maxAge) := (hcell b hbb hba _).trans (hcc 6 (by omega))
        have c7 : wr.cell? ⟨b, off + k * 8 + 7, none⟩ = some (.int .i64 x.c.mt.before) := (hcell b hbb hba _).trans (hcc 7 (by omega))
        have hsm := small_any (w := wr) hxo ((h.cmd x hxm).2.1.only0 hO)
        rw [hxv] at hsm
        unfold Cmd.val at hsm
        have HS := Lib.hid hsm
        clear hcc hel hx hxv hsm hcell
        go_wp2_with (go_at_call 44; refine HS.out.mono ?_; rintro e w1 ⟨⟨bb, rfl, _⟩, ho1⟩; cases bb)
        · go_ret
          exact ⟨⟨false, rfl, fun q => by cases q⟩, hO.trans ho1⟩
        · exact ⟨⟨k + 1, by omega, by simp, hO.trans ho1⟩, by simp [intOf]; omega⟩
      · clear hel
        have h2 : ¬ (l.length ≤ few) := by omega
        go_wp2
        go_ret
        exact ⟨⟨_, rfl, fun q => by simp at q <;> omega⟩, hO⟩
    · clear hel
      have h2 : l.length ≤ few := by omega
      go_wp2
      go_ret
      exact ⟨⟨_, rfl, fun q => h2⟩, hO⟩
def runS (s : MS) (l : List CmdV) : MS := l.foldl (fun s x => (s.do x.c).2) s
theorem runS_take (s : MS) (l : List CmdV) (k : Nat) (h : k < l.length) : runS s (l.take (k + 1)) = ((runS s (l.take k)).do l[k].c).2 := by
  unfold runS
  rw [List.take_succ_eq_append_getElem h, List.foldl_append]
  rfl
variable {R E : List Nat} {sb mb N : Nat} {s : MS}
end
end Go.Proofs.YtpcemipfanimgaaGreatDoor
/- Contract: Seen. -/
set_option linter.unusedVariables false
set_option linter.unusedSimpArgs false
namespace Go.Proofs.YtpcemipfanimgaaGreatDoor
open Go.RowKit Go Go.Sort
section
variable {P : Program} {C : World → Prop} {Q : Exit → Act → World → Prop} {l : List Oper} {H A T2 : List Nat} {r : List (List Nat × List Nat)} {K : Act → World → Prop} {a : Act} {w : World}
theorem stagesNil (h : wpT1 P l.toArray C Q (opsAt l A) (wpStages P l C Q K r) a w) : wpStages P l C Q K (([], A) :: r) a w := wpQuiet_nil (P := P) (ops := l.toArray) (C := C) h
theorem stagesFirst (h : wpQuiet P l.toArray C (fun a' => wpT1 P l.toArray C Q (opsAt l A) (wpStages P l C Q K r) a' w) (opsAt l H) a) : wpStages P l C Q K ((H, A) :: r) a w := h
theorem stagesNext (h : wpQuiet P l.toArray C (fun a' => wpT1 P l.toArray C Q (opsAt l A) (wpStages P l C Q K r) a' w) (opsAt l H) a) : wpT1 P l.toArray C Q (opsAt l []) (wpStages P l C Q K ((H, A) :: r)) a w := h
theorem stagesEnd (h : wpList P l.toArray Q (opsAt l T2) a w) : wpT1 P l.toArray C Q (opsAt l []) (wpStages P l C Q (fun a w => wpList P l.toArray Q (opsAt l T2) a w) []) a w := h
end
def MS.seenAt (s : MS) (p : Int) : Bool := if p < 0 ∨ (s.all.length : Int) ≤ p then false else !(s.find (evAt s.all p).stream).deleted && decide (s.floorS (evAt s.all p).stream ≤ (evAt s.all p).version)
section
variable {w : World} {M : List Nat} {sb mb N : Nat} {av : Value} {pf : ByteArray → Value} {s : MS}
set_option maxRecDepth 100000 in
set_option maxHeartbeats 2000000 in
theorem seenAt_any (h : StAt w M sb mb av pf s) (hs : s.Ok N) (hN : N ≤ 100000) (p : Int) :
    Calls Tryz.prog 65 #[.pointer (some ⟨sb, 0, none⟩), .int .i64 p] w fun e w' => e = .returned (.bool (s.seenAt p)) ∧ Only [] w w' := by
  have hal := hs.all
  obtain ⟨A2, cap2, hav, hnc2, hcm2, hel2⟩ := h.cell
  unfold maxLen at hcm2
  have hln := Lib.hid (fun (W : World) (hW : Only [] w W) => lenS_any (h.only0 hW))
  by_cases hneg : p < 0
  · have hR : Hid (s.seenAt p = false) := by unfold Hid MS.seenAt; rw [if_pos (.inl hneg)]
    clear hel2
    go_enter Tryz.func65, Tryz.ntmps65
    go_wp2
    go_ret
    exact ⟨ret_b (by rw [hR.out]), Only.refl _ _⟩
  · by_cases hge : p ≥ s.all.length
    · have hR : Hid (s.seenAt p = false) := by unfold Hid MS.seenAt; rw [if_pos (.inr hge)]
      clear hel2
      go_enter Tryz.func65, Tryz.ntmps65
      go_wp2_with (go_at_call 112; refine (hln.out _ (Only.refl _ _)).mono ?_; rintro e w1 ⟨rfl, rfl⟩)
      go_ret
      exact ⟨ret_b (by rw [hR.out]), Only.refl _ _⟩
    · obtain ⟨q, rfl⟩ := Int.eq_ofNat_of_zero_le (show 0 ≤ p by omega)
      have hq : q < s.all.length := by omega
      have hqi : (q : Int) < s.all.length := by omega
      have hdec : s.seenAt q = (!(s.find (s.all[q]).stream).deleted && decide (s.floorS (s.all[q]).stream ≤ (s.all[q]).version)) := by
        unfold MS.seenAt
        rw [if_neg (by omega), evAt_nat hq]
      obtain ⟨b2, rfl, hb2, hc2⟩ := hel2 q hq
      obtain ⟨z, hz⟩ : ∃ z, z = s.all[q] := ⟨_, rfl⟩
      rw [← hz] at hc2 hdec
      have d0 : w.cell? ⟨b2, q * 8, none⟩ = some (.int .i64 z.ev.id) := hc2 0 (by omega)
      have d1 : w.cell? ⟨b2, q * 8 + 1, none⟩ = some (.string z.ev.type) := hc2 1 (by omega)
      have d2 : w.cell? ⟨b2, q * 8 + 2, none⟩ = some (.string z.ev.data) := hc2 2 (by omega)
      have d3 : w.cell? ⟨b2, q * 8 + 3, none⟩ = some (.float .f64 z.ev.value) := hc2 3 (by omega)
      have d4 : w.cell? ⟨b2, q * 8 + 4, none⟩ = some (.string z.stream) := hc2 4 (by omega)
      have d5 : w.cell? ⟨b2, q * 8 + 5, none⟩ = some (.int .i64 z.version) := hc2 5 (by omega)
      have d6 : w.cell? ⟨b2, q * 8 + 6, none⟩ = some (.int .i64 z.position) := hc2 6 (by omega)
      have d7 : w.cell? ⟨b2, q * 8 + 7, none⟩ = some (.int .i64 z.time) := hc2 7 (by omega)
      have c0 : w.cell? ⟨sb, 0, none⟩ = some (.slice (some ⟨b2, 0, none⟩) s.all.length cap2) := by rw [← hav]; exact h.blk.cell 0
      have hdl := fun (W : World) (hW : Only [] w W) => deletedS_any (h.only0 hW) z.stream
      have hfl := fun (W : World) (hW : Only [] w W) => floorS_any (h.only0 hW) hs hN z.stream
      obtain ⟨fo, hfo⟩ : ∃ fo, fo = s.floorS z.stream := ⟨_, rfl⟩
      rw [← hfo] at hfl hdec
      have HF := Lib.hid hfl
      have hsf := stF
      have hB := Blk.new w 26 #[.int .i64 z.ev.id, .string z.ev.type, .string z.ev.data, .float .f64 z.ev.value, .string z.stream, .int .i64 z.version, .int .i64 z.position, .int .i64 z.time]
      have hlw : w.heap.size < (w.alloc (.cells #[.int .i64 z.ev.id, .string z.ev.type, .string z.ev.data, .float .f64 z.ev.value, .string z.stream, .int .i64 z.version, .int .i64 z.position, .int .i64 z.time] 26)).heap.size := by simp
      obtain ⟨W0, hW0⟩ : ∃ W0, W0 = w.alloc (.cells #[.int .i64 z.ev.id, .string z.ev.type, .string z.ev.data, .float .f64 z.ev.value, .string z.stream, .int .i64 z.version, .int .i64 z.position, .int .i64 z.time] 26) := ⟨_, rfl⟩
      have hO0 : Only [] w W0 := by rw [hW0]; exact (Only.refl [] w).alloc _
      rw [← hW0] at hB hlw
      have HW0 := Lib.hid hW0
      have k4 := Kept.cell (a := W0) (R := []) (hB.cell 4) (.inl hlw)
      have k5 := Kept.cell (a := W0) (R := []) (hB.cell 5) (.inl hlw)
      clear hel2 hc2 hz hfl hfo hW0
      cases hd : (s.find z.stream).deleted with
      | true =>
        rw [hd] at hdl hdec
        have HD := Lib.hid hdl
        have hR : Hid (s.seenAt q = false) := by unfold Hid; rw [hdec]; rfl
        clear hdl hdec hd
        go_enter Tryz.func65, Tryz.ntmps65
        go_wp2_with (go_at_call 112; refine (hln.out _ (Only.refl _ _)).mono ?_; rintro e w1 ⟨rfl, rfl⟩)
        rw [← HW0.out]
        refine wp_region_stages (C := fun W => ∃ p : Kept W0 [] W0, W = p.W) [([0, 1, 2], [3]), ([4, 5, 6, 7, 8, 9, 10], [11])] [12, 13, 14] (by kernel_rfl) (by kernel_rfl) (by intro c d u a w h; cases d <;> exact h) ⟨⟨_, (Keeps.refl _ _ _).drew⟩, rfl⟩ ?_
        refine stagesFirst ?_
        show wpQuiet _ _ _ _ [_, _, _] _
        repeat (go_big_quiet_step (fail))
        refine wpQuiet_nil ?_
        show wpList _ _ _ [_] _ _
        go_wp2_with (go_at_call 51; refine (HD.out _ hO0.drew).mono ?_; rintro e w2 ⟨rfl, ho2⟩)
        have hK : Keeps W0 [] W0 w2 := (Keeps.refl _ _ _).drew.then0 ho2
        refine check_kept hK ?_
        refine stagesNext ?_
        show wpQuiet _ _ _ _ [_, _, _, _, _, _, _] _
        try go_frame
        repeat (go_big_quiet_step (fail))
        refine wpQuiet_nil ?_
        show wpList _ _ _ [_] _ _
        go_wp2_with fail
        refine check_kept hK ?_
        refine stagesEnd ?_
        show wpList _ _ _ [_, _, _] _ _
        go_wp2
        go_ret
        exact ⟨ret_b (by rw [hR.out]), hO0.drew.trans ho2⟩
      | false =>
        rw [hd] at hdl hdec
        have HD := Lib.hid hdl
        have hR : Hid (s.seenAt q = decide (fo ≤ z.version)) := by unfold Hid; rw [hdec]; rfl
        clear hdl hdec hd
        go_enter Tryz.func65, Tryz.ntmps65
        go_wp2_with (go_at_call 112; refine (hln.out _ (Only.refl _ _)).mono ?_; rintro e w1 ⟨rfl, rfl⟩)
        rw [← HW0.out]
        refine wp_region_stages (C := fun W => ∃ p : Kept W0 [] W0, W = p.W) [([0, 1, 2], [3]), ([4, 5, 6, 7, 8, 9, 10], [11])] [12, 13, 14] (by kernel_rfl) (by kernel_rfl) (by intro c d u a w h; cases d <;> exact h) ⟨⟨_, (Keeps.refl _ _ _).drew⟩, rfl⟩ ?_
        refine stagesFirst ?_
        show wpQuiet _ _ _ _ [_, _, _] _
        repeat (go_big_quiet_step (fail))
        refine wpQuiet_nil ?_
        show wpList _ _ _ [_] _ _
        go_wp2_with (go_at_call 51; refine (HD.out _ hO0.drew).mono ?_; rintro e w2 ⟨rfl, ho2⟩)
        have hK : Keeps W0 [] W0 w2 := (Keeps.refl _ _ _).drew.then0 ho2
        refine check_kept hK ?_
        refine stagesNext ?_
        show wpQuiet _ _ _ _ [_, _, _, _, _, _, _] _
        try go_frame
        repeat (go_big_quiet_step (fail))
        refine wpQuiet_nil ?_
        show wpList _ _ _ [_] _ _
        go_wp2_with (go_at_call 113; refine (HF.out _ (hO0.drew.trans ho2)).mono ?_; rintro e w3 ⟨rfl, ho3⟩)
        refine check_kept (hK.then0 ho3) ?_
        refine stagesEnd ?_
        show wpList _ _ _ [_, _, _] _ _
        go_wp2
        go_ret
        exact ⟨ret_b (by rw [hR.out]), (hO0.drew.trans ho2).trans ho3⟩
end
section
variable {a w : World} {R E : List Nat} {sb mb N : Nat} {s : MS}
theorem has_seen (h : HasS a w R E sb mb s N) (hN : N ≤ 100000) (p : Int) :
    Calls Tryz.prog 65 #[.pointer (some ⟨sb, 0, none⟩), .int .i64 p] w fun e w' => e = .returned (.bool (s.seenAt p)) ∧ Only [] w w' := by
  obtain ⟨M, av, pf, h1, _⟩ := h.st
  exact seenAt_any h1 h.ok hN p
end
end Go.Proofs.YtpcemipfanimgaaGreatDoor
/- Pure: what is seen of all and of a stream, and the pages of it, one behind the other. -/
set_option linter.unusedVariables false
set_option linter.unusedSimpArgs false
namespace Go.Proofs.YtpcemipfanimgaaGreatDoor
open Go.RowKit
/-- The places of a stream lead to just its events, in order; names are names. -/
def MS.Inv2 (s : MS) : Prop := (∀ n, (s.find n).places.map (evAt s.all) = s.all.filter (fun e => decide (e.stream = n))) ∧ ∀ e ∈ s.all, nameOk e.stream = true
theorem inv2_new : MS.new.Inv2 := ⟨fun n => rfl, fun e he => by cases he⟩
theorem storedOf_stream (stream : ByteArray) (now : Int) : ∀ (l : List EventR) (v at_ : Int), ∀ e ∈ storedOf stream now l v at_, e.stream = stream
  | [], _, _, e, h => by cases h
  | x :: l, v, at_, e, h => by
    simp only [storedOf, List.mem_cons] at h
    rcases h with rfl | h
    · rfl
    · exact storedOf_stream stream now l _ _ e h
theorem evAt_append {all l : List StoredR} {p : Nat} (h : p < all.length) : evAt (all ++ l) (p : Int) = evAt all (p : Int) := by
  simp [evAt, List.getElem?_append_left h]
theorem range_evAt (all st : List StoredR) : (rangeFrom st.length all.length).map (evAt (all ++ st)) = st := by
  apply List.ext_getElem?
  intro i
  by_cases h : i < st.length
  · rw [List.getElem?_map, rangeFrom_get _ _ _ h, Option.map_some]
    rw [show (all.length : Int) + (i : Int) = ((all.length + i : Nat) : Int) by omega]
    rw [evAt_nat (by simp; omega), List.getElem_append_right (by omega)]
    simp [h]
  · rw [List.getElem?_eq_none (by simp [rangeFrom_len]; omega), List.getElem?_eq_none (by omega)]
theorem MS.Inv2.same {s t : MS} (h : s.Inv2) (hm : ∀ n, (t.find n).places = (s.find n).places) (ha : t.all = s.all) : t.Inv2 :=
  ⟨fun n => by rw [hm, ha]; exact h.1 n, fun e he => h.2 e (by rw [← ha]; exact he)⟩
theorem inv2_do {s : MS} (h : s.Inv) (h2 : s.Inv2) (c : Cmd) : (s.do c).2.Inv2 := by
  by_cases hk : c.check = 0
  · by_cases hq : c.kind = 4 ∨ c.kind = 5
    · have e : (s.do c).2 = s.tick c.time := by
        unfold MS.do
        rw [if_neg (by simp [hk])]
        dsimp only
        rw [if_pos hq]
      rw [e]
      exact h2.same (fun _ => rfl) rfl
    · have hn : nameOk c.stream = true := by
        unfold Cmd.check at hk
        split at hk
        · cases hk
        · rename_i q1
          split at hk
          · cases hk
          · rename_i q2
            cases hb : nameOk c.stream with
            | true => rfl
            | false => exact absurd ⟨by omega, hb⟩ q2
      rcases do_shape s c with ⟨h1, h3⟩ | ⟨y, h1, ⟨h4, h3⟩ | ⟨h4, h3⟩⟩
      · exact h2.same (fun n => by rw [find_m h1]) h3
      · refine h2.same (fun n => ?_) h3
        have e : (s.do c).2.find n = (s.put c.stream y).find n := find_m h1 n
        rw [e, find_put]
        split
        · rename_i q; subst q; exact h4
        · rfl
      · have hfi : ∀ n, ((s.do c).2.find n).places = if c.stream = n then y.places else (s.find n).places := fun n => by
          have e : (s.do c).2.find n = (s.put c.stream y).find n := find_m h1 n
          rw [e, find_put]
          split <;> rfl
        generalize (s.do c).2 = t at *
        obtain ⟨st, hst⟩ : ∃ st, st = storedOf c.stream (max s.now c.time) c.events (s.find c.stream).places.length s.all.length := ⟨_, rfl⟩
        rw [← hst] at h3
        have hsl : st.length = c.events.length := by rw [hst, storedOf_len]
        have hss : ∀ e ∈ st, e.stream = c.stream := by rw [hst]; exact storedOf_stream _ _ _ _ _
        have hold : ∀ n, (s.find n).places.map (evAt t.all) = s.all.filter (fun e => decide (e.stream = n)) := fun n => by
          rw [← h2.1 n]
          apply List.map_congr_left
          intro p hp
          obtain ⟨k, hk, rfl⟩ := List.mem_iff_getElem.1 hp
          obtain ⟨q, hq1, hq2, _⟩ := h.plc n k hk
          rw [hq2, h3]
          exact evAt_append hq1
        refine ⟨fun n => ?_, fun e he => ?_⟩
        · rw [hfi]
          split
          · rename_i q
            subst q
            rw [h4, List.map_append, hold, h3, List.filter_append, ← hsl, range_evAt]
            congr 1
            exact (List.filter_eq_self.2 (fun e he => by simpa using hss e he)).symm
          · rename_i q
            rw [hold, h3, List.filter_append]
            rw [show st.filter (fun e => decide (e.stream = n)) = [] from List.filter_eq_nil_iff.2 (fun e he => by simpa [hss e he] using q), List.append_nil]
        · rw [h3] at he
          rcases List.mem_append.1 he with he | he
          · exact h2.2 e he
          · rw [hss e he]
            exact hn
  · have e : (s.do c).2 = s := by
      unfold MS.do
      rw [if_pos (by simpa using hk)]
    rw [e]
    exact h2
theorem drop_filter (f : StoredR → Int) : ∀ (L : List StoredR) (b : Int) (h : ∀ k (hk : k < L.length), f L[k] = b + k) (a : Nat), L.drop a = L.filter (fun e => decide (b + a ≤ f e))
  | [], _, _, _ => by simp
  | x :: l, b, h, 0 => by
    rw [List.drop_zero, List.filter_eq_self.2]
    intro e he
    obtain ⟨k, hk, rfl⟩ := List.mem_iff_getElem.1 he
    rw [h k hk]
    simp
    omega
  | x :: l, b, h, a + 1 => by
    have h0 := h 0 (by simp)
    simp only [List.getElem_cons_zero] at h0
    rw [List.drop_succ_cons, drop_filter f l (b + 1) (fun k hk => by
      have := h (k + 1) (by simpa using hk)
      simp only [List.getElem_cons_succ] at this
      rw [this]
      omega) a, List.filter_cons, if_neg (by simp [h0]; omega)]
    congr 1
    funext e
    congr 1
    apply propext
    constructor <;> intro <;> omega
def MS.seenAll (s : MS) : List StoredR := s.all.filter (fun e => s.seenAt e.position)
theorem seenAt_of {s : MS} (h : s.Inv) {e : StoredR} (he : e ∈ s.all) : s.seenAt e.position = (!(s.find e.stream).deleted && decide (s.floorS e.stream ≤ e.version)) := by
  obtain ⟨i, hi, rfl⟩ := List.mem_iff_getElem.1 he
  rw [h.pos i hi]
  unfold MS.seenAt
  rw [if_neg (by omega), evAt_nat hi]
theorem floorS_bd (s : MS) (n : ByteArray) : 0 ≤ s.floorS n ∧ s.floorS n ≤ (s.find n).places.length := floorOf_bd s (s.find n)
theorem streamEvs_vers {s : MS} (h : s.Inv) (h2 : s.Inv2) (n : ByteArray) : ∀ k (hk : k < (s.all.filter (fun e => decide (e.stream = n))).length), (s.all.filter (fun e => decide (e.stream = n)))[k].version = 0 + (k : Int) := by
  intro k hk
  have e := h2.1 n
  simp only [← e] at hk ⊢
  rw [List.getElem_map]
  obtain ⟨p, hp, h3, h4, h5⟩ := h.plc n k (by simpa using hk)
  rw [h3, evAt_nat hp, h5]
  omega
theorem seenL_filter {s : MS} (h : s.Inv) (h2 : s.Inv2) (n : ByteArray) : s.seenL n = s.seenAll.filter (fun e => decide (e.stream = n)) := by
  have e1 : s.seenAll.filter (fun e => decide (e.stream = n)) = (s.all.filter (fun e => decide (e.stream = n))).filter (fun e => !(s.find n).deleted && decide (s.floorS n ≤ e.version)) := by
    unfold MS.seenAll
    rw [List.filter_filter, List.filter_filter]
    apply List.filter_congr
    intro e he
    by_cases q : e.stream = n
    · rw [seenAt_of h he, q]
      simp
    · simp [q]
  rw [e1]
  unfold MS.seenL
  cases (s.find n).deleted with
  | true =>
    simp only [if_true, Bool.not_true, Bool.false_and]
    rw [List.filter_eq_nil_iff.2 (by simp)]
  | false =>
    simp only [Bool.false_eq_true, if_false, Bool.not_false, Bool.true_and]
    rw [List.map_drop, h2.1 n, drop_filter StoredR.version _ 0 (streamEvs_vers h h2 n)]
    have := floorS_bd s n
    congr 1
    funext e
    congr 1
    apply propext
    constructor <;> intro <;> omega
theorem seenL_length {s : MS} (n : ByteArray) (hd : (s.find n).deleted = false) : ((s.seenL n).length : Int) = (s.find n).places.length - s.floorS n := by
  have := floorS_bd s n
  unfold MS.seenL
  rw [hd]
  simp
  omega
theorem name_of {s : MS} (h : s.Inv) (h2 : s.Inv2) (n : ByteArray) (h0 : (s.find n).places.length ≠ 0) : nameOk n = true := by
  obtain ⟨p, hp, h3, h4, h5⟩ := h.plc n 0 (by omega)
  rw [← h4]
  exact h2.2 _ (List.getElem_mem hp)
def Rising (key : StoredR → Int) (l : List StoredR) : Prop := l.Pairwise (fun x y => key x < key y)
theorem rising_of (key : StoredR → Int) : ∀ (l : List StoredR) (b : Int) (h : ∀ k (hk : k < l.length), key l[k] = b + k), Rising key l := by
  intro l b h
  unfold Rising
  rw [List.pairwise_iff_getElem]
  intro i j hi hj hij
  rw [h i hi, h j hj]
  omega
theorem rising_all {s : MS} (h : s.Inv) : Rising StoredR.position s.seenAll :=
  List.Pairwise.filter _ (rising_of StoredR.position s.all 0 (fun k hk => by rw [h.pos k hk]; omega))
theorem rising_stream {s : MS} (h : s.Inv) (h2 : s.Inv2) (n : ByteArray) : Rising StoredR.version (s.seenL n) := by
  have hr := rising_of StoredR.version _ 0 (streamEvs_vers h h2 n)
  rw [← h2.1 n] at hr
  unfold MS.seenL
  split
  · exact List.Pairwise.nil
  · rw [List.map_drop]
    exact List.Pairwise.sublist (List.drop_sublist _ _) hr

/-! ## pages one behind the other -/
theorem fwdGo_spec (key : StoredR → Int) (f n : Int) (hn : 0 ≤ n) : ∀ (l acc : List StoredR) (nx : Int), (acc.length : Int) ≤ n →
    ((acc.length + (l.filter (fun e => decide (f ≤ key e))).length : Int) ≤ n ∧ ∃ nt, fwdGo key f n l acc nx = ⟨acc ++ l.filter (fun e => decide (f ≤ key e)), nt, true⟩) ∨
    ∃ A B nt, l.filter (fun e => decide (f ≤ key e)) = A ++ B ∧ (acc.length + A.length : Int) = n ∧ fwdGo key f n l acc nx = ⟨acc ++ A, nt, false⟩ ∧ ((A = [] ∧ nt = nx) ∨ ∃ A' e, A = A' ++ [e] ∧ nt = key e + 1)
  | [], acc, nx, ha => .inl ⟨by simpa using ha, nx, by simp [fwdGo]⟩
  | s :: l, acc, nx, ha => by
    by_cases h1 : key s < f
    · have e1 : fwdGo key f n (s :: l) acc nx = fwdGo key f n l acc nx := by rw [fwdGo, if_pos h1]
      have e2 : (s :: l).filter (fun e => decide (f ≤ key e)) = l.filter (fun e => decide (f ≤ key e)) := by rw [List.filter_cons, if_neg (by simp; omega)]
      rw [e1, e2]
      exact fwdGo_spec key f n hn l acc nx ha
    · have e2 : (s :: l).filter (fun e => decide (f ≤ key e)) = s :: l.filter (fun e => decide (f ≤ key e)) := by rw [List.filter_cons, if_pos (by simp; omega)]
      by_cases h2 : (acc.length : Int) = n
      · refine .inr ⟨[], (s :: l).filter (fun e => decide (f ≤ key e)), nx, rfl, by simpa using h2, ?_, .inl ⟨rfl, rfl⟩⟩
        rw [fwdGo, if_neg h1, if_pos h2, List.append_nil]
      · have e1 : fwdGo key f n (s :: l) acc nx = fwdGo key f n l (acc ++ [s]) (key s + 1) := by rw [fwdGo, if_neg h1, if_neg h2]
        rw [e1, e2]
        rcases fwdGo_spec key f n hn l (acc ++ [s]) (key s + 1) (by simp; omega) with ⟨q1, nt, q2⟩ | ⟨A, B, nt, q1, q2, q3, q4⟩
        · refine .inl ⟨by simp at q1 ⊢; omega, nt, ?_⟩
          rw [q2]
          simp
        · refine .inr ⟨s :: A, B, nt, by rw [q1]; rfl, by simp at q2 ⊢; omega, by rw [q3]; simp, .inr ?_⟩
          rcases q4 with ⟨rfl, rfl⟩ | ⟨A', e, rfl, rfl⟩
          · exact ⟨[], s, rfl, rfl⟩
          · exact ⟨s :: A', e, rfl, rfl⟩
/-- All pages from a place on, at most so many. -/
def walkP (page : Int → PageR × Int) : Nat → Int → List StoredR
  | 0, _ => []
  | k + 1, at_ => if (page at_).2 = 0 then (page at_).1.events ++ (if (page at_).1.isEnd then [] else walkP page k (page at_).1.next) else []
theorem rising_behind {key : StoredR → Int} {A B : List StoredR} {e : StoredR} (h : Rising key (A ++ [e] ++ B)) : (A ++ [e] ++ B).filter (fun x => decide (key e + 1 ≤ key x)) = B := by
  unfold Rising at h
  rw [List.pairwise_append] at h
  obtain ⟨h1, h2, h3⟩ := h
  rw [List.pairwise_append] at h1
  obtain ⟨h4, h5, h6⟩ := h1
  rw [List.filter_append, List.filter_append]
  rw [List.filter_eq_nil_iff.2 (fun x hx => by have := h6 x hx e (by simp); simp; omega), show [e].filter (fun x => decide (key e + 1 ≤ key x)) = [] from List.filter_eq_nil_iff.2 (fun x hx => by simp at hx; subst hx; simp; omega)]
  rw [List.filter_eq_self.2 (fun x hx => by have := h3 e (by simp) x hx; simp; omega)]
  rfl
theorem walkP_from {key : StoredR → Int} {l : List StoredR} {n : Int} (hn : 1 ≤ n ∧ n ≤ 100) (hr : Rising key l) (h0 : ∀ e ∈ l, 0 ≤ key e) : ∀ (k : Nat) (f : Int), 0 ≤ f → (l.filter (fun e => decide (f ≤ key e))).length < k →
    walkP (fun a => forwardBy key l a n) k f = l.filter (fun e => decide (f ≤ key e))
  | 0, _, _, h => absurd h (Nat.not_lt_zero _)
  | k + 1, f, hf, hk => by
    have e0 : forwardBy key l f n = (fwdGo key f n l [] f, 0) := by
      unfold forwardBy
      rw [if_neg (by simp [wrongP]; omega)]
    unfold walkP
    rw [if_pos (by rw [e0]), e0]
    dsimp only
    rcases fwdGo_spec key f n (by omega) l [] f (by simp; omega) with ⟨q1, nt, q2⟩ | ⟨A, B, nt, q1, q2, q3, q4⟩
    · rw [q2]
      simp
    · rw [q3]
      simp only [List.nil_append, Bool.false_eq_true, if_false]
      rcases q4 with ⟨rfl, rfl⟩ | ⟨A', e, rfl, rfl⟩
      · simp at q2
        omega
      · have hef : e ∈ l.filter (fun e => decide (f ≤ key e)) := by rw [q1]; simp
        have he2 : f ≤ key e := by have := (List.mem_filter.1 hef).2; simpa using this
        have e3 : l.filter (fun x => decide (key e + 1 ≤ key x)) = (l.filter (fun e => decide (f ≤ key e))).filter (fun x => decide (key e + 1 ≤ key x)) := by
          rw [List.filter_filter]
          apply List.filter_congr
          intro x _
          by_cases q : key e + 1 ≤ key x
          · simp [q]; omega
          · simp [q]
        have e4 : l.filter (fun x => decide (key e + 1 ≤ key x)) = B := by
          rw [e3, q1]
          apply rising_behind
          rw [← q1]
          exact List.Pairwise.filter _ hr
        rw [walkP_from hn hr h0 k (key e + 1) (by omega) (by rw [e4]; rw [q1] at hk; simp at hk; omega), e4, q1]
theorem walkP_all {key : StoredR → Int} {l : List StoredR} {n : Int} (hn : 1 ≤ n ∧ n ≤ 100) (hr : Rising key l) (h0 : ∀ e ∈ l, 0 ≤ key e) {k : Nat} (hk : l.length < k) : walkP (fun a => forwardBy key l a n) k 0 = l := by
  have e : l.filter (fun e => decide ((0 : Int) ≤ key e)) = l := List.filter_eq_self.2 (fun e he => by simpa using h0 e he)
  rw [walkP_from hn hr h0 k 0 (Int.le_refl _) (by rw [e]; exact hk), e]
end Go.Proofs.YtpcemipfanimgaaGreatDoor
/- Contracts: texts cut at a byte, categories, targets. -/
set_option linter.unusedVariables false
set_option linter.unusedSimpArgs false
namespace Go.Proofs.YtpcemipfanimgaaGreatDoor
open Go.RowKit
theorem index_pre (b : UInt8) : ∀ l : List UInt8, Lib.indexByte l b = if b ∈ l then ((preOf b l).length : Int) else -1
  | [] => rfl
  | a :: l => by
    have ih := index_pre b l
    unfold Lib.indexByte
    by_cases h : a = b
    · subst h
      simp [preOf]
    · have h1 : (a == b) = false := by simpa using h
      have h2 : b ≠ a := fun e => h e.symm
      rw [h1, ih]
      simp only [Bool.false_eq_true, if_false, List.mem_cons, h2, false_or]
      by_cases q : b ∈ l
      · have e : preOf b (a :: l) = a :: preOf b l := by
          unfold preOf
          rw [List.takeWhile_cons, if_pos (by simpa using h)]
        rw [if_pos q, if_pos q, e, if_neg (by simp only [beq_iff_eq]; omega)]
        rfl
      · rw [if_neg q, if_neg q]
        rfl
theorem pre_le (b : UInt8) (l : List UInt8) : (preOf b l).length ≤ l.length := (List.takeWhile_prefix _).length_le
theorem pre_lt {b : UInt8} {l : List UInt8} (h : b ∈ l) : (preOf b l).length < l.length := by
  rcases Nat.lt_or_ge (preOf b l).length l.length with q | q
  · exact q
  · have e : preOf b l = l := (List.takeWhile_prefix _).eq_of_length_le q
    rw [← e] at h
    exact absurd h (not_mem_pre b l)
theorem pre_is_take (b : UInt8) (l : List UInt8) : l.take (preOf b l).length = preOf b l := (List.prefix_iff_eq_take.1 (List.takeWhile_prefix _)).symm
theorem ext_take (s : ByteArray) (i : Nat) (h : i ≤ s.size) : s.extract 0 i = ba (s.data.toList.take i) := by
  apply bts_inj
  rw [bts_ba]
  simp [ByteArray.extract, ByteArray.copySlice]
theorem ext_drop (s : ByteArray) (i : Nat) : s.extract i s.size = ba (s.data.toList.drop i) := by
  apply bts_inj
  rw [bts_ba]
  have : (s.data.toList.drop i).length ≤ s.size - i := by simp
  simp [ByteArray.extract, ByteArray.copySlice, List.take_of_length_le this]
set_option maxRecDepth 100000 in
theorem slcut_yes (s : ByteArray) (b : UInt8) (w : World) (hs : s.size ≤ maxLen) (h : b ∈ s.data.toList) :
    Calls Tryz.prog 158 #[.string s, .string ⟨#[b]⟩] w fun e w' => e = .returned (.tuple #[.string (ba (preOf b s.data.toList)), .string (ba (s.data.toList.drop ((preOf b s.data.toList).length + 1))), .bool true]) ∧ Only [] w w' := by
  unfold maxLen at hs
  have hl : s.data.toList.length = s.size := by simp
  have hk := pre_lt h
  rw [hl] at hk
  have hix := index_pre b s.data.toList
  rw [if_pos h] at hix
  have e1 := ext_take s (preOf b s.data.toList).length (by omega)
  rw [pre_is_take] at e1
  have e2 := ext_drop s ((preOf b s.data.toList).length + 1)
  rw [← e1, ← e2]
  obtain ⟨k, hkk⟩ : ∃ k, k = (preOf b s.data.toList).length := ⟨_, rfl⟩
  rw [← hkk] at hk hix ⊢
  have HIx := Lib.hid hix
  clear hix e1 e2 hkk hl
  go_enter Tryz.func158, Tryz.ntmps158
  go_wp2_with (go_at_call 178; refine (Tryz.stringslite_Index_one s b _).mono ?_; rintro e w' ⟨rfl, rfl⟩; rw [HIx.out])
  refine wp_region_quiet_below (by kernel_rfl) (by kernel_rfl) ?_
  repeat (go_big_quiet_step (fail))
  refine wpQuiet_nil ?_
  rintro _ ⟨p, rfl⟩
  go_wp2
  go_ret3
  exact ⟨rfl, Only.regrown [] _ p.d p.os⟩
set_option maxRecDepth 100000 in
theorem slcut_no (s : ByteArray) (b : UInt8) (w : World) (h : b ∉ s.data.toList) :
    Calls Tryz.prog 158 #[.string s, .string ⟨#[b]⟩] w fun e w' => e = .returned (.tuple #[.string s, .string ⟨#[]⟩, .bool false]) ∧ Only [] w w' := by
  have hix := index_pre b s.data.toList
  rw [if_neg h] at hix
  have HIx := Lib.hid hix
  clear hix
  go_enter Tryz.func158, Tryz.ntmps158
  go_wp2_with (go_at_call 178; refine (Tryz.stringslite_Index_one s b _).mono ?_; rintro e w' ⟨rfl, rfl⟩; rw [HIx.out])
  go_ret3
  exact ⟨rfl, Only.refl _ _⟩
/-- A text cut at a byte: what stands ahead of it, what behind it. -/
def cutAt (b : UInt8) (s : ByteArray) : ByteArray × ByteArray × Bool := if b ∈ s.data.toList then (ba (preOf b s.data.toList), ba (s.data.toList.drop ((preOf b s.data.toList).length + 1)), true) else (s, ⟨#[]⟩, false)
theorem cut_any (s : ByteArray) (b : UInt8) (w : World) (hs : s.size ≤ maxLen) :
    Calls Tryz.prog 123 #[.string s, .string ⟨#[b]⟩] w fun e w' => e = .returned (.tuple #[.string (cutAt b s).1, .string (cutAt b s).2.1, .bool (cutAt b s).2.2]) ∧ Only [] w w' := by
  unfold cutAt
  by_cases h : b ∈ s.data.toList
  · rw [if_pos h]
    go_enter Tryz.func123, Tryz.ntmps123
    go_wp2_with (go_at_call 158; refine (slcut_yes s b _ hs h).mono ?_; rintro e w1 ⟨rfl, ho1⟩)
    go_ret3
    exact ⟨rfl, ho1⟩
  · rw [if_neg h]
    go_enter Tryz.func123, Tryz.ntmps123
    go_wp2_with (go_at_call 158; refine (slcut_no s b _ h).mono ?_; rintro e w1 ⟨rfl, ho1⟩)
    go_ret3
    exact ⟨rfl, ho1⟩
theorem strClone_any (s : ByteArray) (w : World) (hlim : s.size ≤ 281474976710656) :
    Calls Tryz.prog 124 #[.string s] w fun e w' => e = .returned (.string s) ∧ Only [] w w' := by
  go_enter Tryz.func124, Tryz.ntmps124
  go_wp2_with (go_at_call 159; refine (Tryz.stringslite_Clone s _ hlim).mono ?_; rintro e w' ⟨rfl, hb⟩)
  go_ret
  exact ⟨rfl, Only.of_below hb (Nat.le_refl _)⟩
theorem system_any (s : ByteArray) (w : World) : Calls Tryz.prog 83 #[.string s] w fun e w' => e = .returned (.bool (isSys s)) ∧ w = w' := by
  go_enter Tryz.func83, Tryz.ntmps83
  go_wp2_with (go_at_call 122; refine (Tryz.strings_HasPrefix s _ _).mono ?_; rintro e w' ⟨rfl, rfl⟩)
  go_ret
  exact ⟨rfl, rfl⟩
theorem isSys_eq (s : ByteArray) : isSys s = (decide (0 < s.size) && decide (s.data.toList.head? = some 36)) := by
  unfold isSys sysL
  cases h : s.data.toList with
  | nil => simp [List.isPrefixOf]
  | cons a l =>
    have : 0 < s.size := by
      have : s.data.toList.length = s.size := by simp
      rw [h] at this
      simp at this
      omega
    rw [decide_eq_true this]
    simp only [List.isPrefixOf, Bool.and_true, Bool.true_and, List.head?_cons, Option.some.injEq]
    by_cases q : a = 36
    · subst q; rfl
    · rw [decide_eq_false q]
      exact beq_eq_false_iff_ne.2 (fun e => q e.symm)
def catT (s : ByteArray) : ByteArray := (cat s).getD ⟨#[]⟩
theorem size_ne {s : ByteArray} : s.data.toList ≠ [] ↔ ¬s.size = 0 := by
  have : s.data.toList.length = s.size := by simp
  rw [← this, List.length_eq_zero_iff]
set_option maxRecDepth 100000 in
theorem category_any (s : ByteArray) (w : World) (hs : s.size ≤ maxLen) : Calls Tryz.prog 84 #[.string s] w fun e w' => e = .returned (.tuple #[.string (catT s), .bool (cat s).isSome]) ∧ Only [] w w' := by
  unfold catT cat
  have hs' := hs
  unfold maxLen at hs'
  have HC := Lib.hid (cut_any s 45 w hs)
  unfold cutAt at HC
  by_cases h1 : (45 : UInt8) ∈ s.data.toList
  · rw [if_pos h1] at HC
    obtain ⟨c, hc⟩ : ∃ c, c = ba (preOf 45 s.data.toList) := ⟨_, rfl⟩
    have hcl : preOf 45 s.data.toList = c.data.toList := by rw [hc, bts_ba]
    have hcs : c.size ≤ s.size := by
      have := pre_le 45 s.data.toList
      rw [hcl] at this
      simpa using this
    rw [← hc] at HC ⊢
    rw [hcl]
    clear hc hcl
    by_cases h2 : c.data.toList = []
    · rw [if_neg (fun q => q.2.2.2 h2)]
      have hz : (c.toList == []) = true := by rw [ByteArray.toList_eq, h2]; rfl
      go_enter Tryz.func84, Tryz.ntmps84
      go_wp2_with (go_at_call 123; refine HC.out.mono ?_; rintro e w1 ⟨rfl, ho1⟩)
      go_ret2
      exact ⟨rfl, ho1⟩
    · have hz : (c.toList == []) = false := by rw [ByteArray.toList_eq]; simpa using h2
      cases h3 : nameOk s with
      | false =>
        rw [if_neg (fun q => by simp at q)]
        go_enter Tryz.func84, Tryz.ntmps84
        go_wp2_with (first | (go_at_call 123; refine HC.out.mono ?_; rintro e w1 ⟨rfl, ho1⟩) | (go_at_call 69; refine (stream_any s _ hs).mono ?_; rintro e w' ⟨rfl, rfl⟩; rw [h3]))
        go_ret2
        exact ⟨rfl, ho1⟩
      | true =>
        cases h4 : isSys s with
        | true =>
          rw [if_neg (fun q => by simp at q)]
          go_enter Tryz.func84, Tryz.ntmps84
          go_wp2_with (first | (go_at_call 123; refine HC.out.mono ?_; rintro e w1 ⟨rfl, ho1⟩) | (go_at_call 69; refine (stream_any s _ hs).mono ?_; rintro e w' ⟨rfl, rfl⟩; rw [h3]) | (go_at_call 83; refine (system_any s _).mono ?_; rintro e w' ⟨rfl, rfl⟩; rw [h4]))
          go_ret2
          exact ⟨rfl, ho1⟩
        | false =>
          rw [if_pos ⟨rfl, rfl, h1, h2⟩]
          have hn60 := (nameOk_size h3).2
          go_enter Tryz.func84, Tryz.ntmps84
          go_wp2_with (first | (go_at_call 123; refine HC.out.mono ?_; rintro e w1 ⟨rfl, ho1⟩) | (go_at_call 69; refine (stream_any s _ hs).mono ?_; rintro e w' ⟨rfl, rfl⟩; rw [h3]) | (go_at_call 83; refine (system_any s _).mono ?_; rintro e w' ⟨rfl, rfl⟩; rw [h4]) | (go_at_call 124; refine (strClone_any c _ (by omega)).mono ?_; rintro e w2 ⟨rfl, ho2⟩))
          go_ret2
          exact ⟨rfl, ho1.trans ho2⟩
  · rw [if_neg h1] at HC
    rw [if_neg (fun q => h1 q.2.2.1)]
    go_enter Tryz.func84, Tryz.ntmps84
    go_wp2_with (go_at_call 123; refine HC.out.mono ?_; rintro e w1 ⟨rfl, ho1⟩)
    go_ret2
    exact ⟨rfl, ho1⟩
theorem ofCat_any (c : ByteArray) (w : World) (hc : c.size ≤ 1000000) : Calls Tryz.prog 85 #[.string c] w fun e w' => e = .returned (.string (ofCat c)) ∧ w = w' := by
  go_enter Tryz.func85, Tryz.ntmps85
  go_wp2
  go_ret
  exact ⟨rfl, rfl⟩
theorem ofTyp_any (c : ByteArray) (w : World) (hc : c.size ≤ 1000000) : Calls Tryz.prog 86 #[.string c] w fun e w' => e = .returned (.string (ofTyp c)) ∧ w = w' := by
  go_enter Tryz.func86, Tryz.ntmps86
  go_wp2
  go_ret
  exact ⟨rfl, rfl⟩
theorem trim_pre (p t : List UInt8) (h : p.isPrefixOf t = true) : Lib.trimPrefix t p = t.drop p.length := by
  unfold Lib.trimPrefix Lib.hasPrefix
  rw [h]
  rfl
theorem trim_no (p t : List UInt8) (h : p.isPrefixOf t = false) : Lib.trimPrefix t p = t := by
  unfold Lib.trimPrefix Lib.hasPrefix
  rw [h]
  rfl
theorem has_dash (l : List UInt8) : decide (0 ≤ Lib.indexByte l 45) = decide ((45 : UInt8) ∈ l) := by
  rw [index_pre]
  by_cases h : (45 : UInt8) ∈ l
  · rw [if_pos h, decide_eq_true h]
    exact decide_eq_true (by omega)
  · rw [if_neg h, decide_eq_false h]
    exact decide_eq_false (by omega)
set_option maxRecDepth 100000 in
set_option maxHeartbeats 2000000 in
theorem is_any (t : ByteArray) (w : World) (ht : t.size ≤ maxLen) : Calls Tryz.prog 89 #[.string t] w fun e w' => e = .returned (.bool (isTarget t)) ∧ w = w' := by
  obtain ⟨c, hc⟩ : ∃ c, c = ba (Lib.trimPrefix t.data.toList ceP) := ⟨_, rfl⟩
  obtain ⟨d, hd⟩ : ∃ d, d = ba (Lib.trimPrefix t.data.toList etP) := ⟨_, rfl⟩
  have h1 := fun W => Tryz.strings_CutPrefix t ⟨#[36, 99, 101, 45]⟩ W
  have h2 := fun W => Tryz.strings_CutPrefix t ⟨#[36, 101, 116, 45]⟩ W
  obtain ⟨p1, hp1⟩ : ∃ p1, p1 = ceP.isPrefixOf t.data.toList := ⟨_, rfl⟩
  obtain ⟨p2, hp2⟩ : ∃ p2, p2 = etP.isPrefixOf t.data.toList := ⟨_, rfl⟩
  have H1 : Hid (∀ W, Calls Tryz.prog 126 #[.string t, .string ⟨#[36, 99, 101, 45]⟩] W fun e w' => e = .returned (.tuple #[.string c, .bool p1]) ∧ w' = W) := by rw [hc, hp1]; exact h1
  have H2 : Hid (∀ W, Calls Tryz.prog 126 #[.string t, .string ⟨#[36, 101, 116, 45]⟩] W fun e w' => e = .returned (.tuple #[.string d, .bool p2]) ∧ w' = W) := by rw [hd, hp2]; exact h2
  have hds : d.size ≤ t.size := by
    have e1 : d.data.toList.length ≤ t.data.toList.length := by
      rw [hd, bts_ba]
      unfold Lib.trimPrefix
      split
      · rw [List.length_drop]; omega
      · exact Nat.le_refl _
    simpa using e1
  have hds' : d.size ≤ maxLen := Nat.le_trans hds ht
  have hcat : catB t.data.toList = (p1 && (!decide (c.data.toList = []) && !isSys c && !decide ((45 : UInt8) ∈ c.data.toList))) := by
    unfold catB
    rw [← hp1]
    cases h : p1 with
    | false => rfl
    | true =>
      rw [h] at hp1
      rw [trim_pre _ _ hp1.symm] at hc
      rw [hc, bts_ba]
      unfold isSys
      rw [bts_ba]
      by_cases q : List.drop ceP.length t.data.toList = []
      · rw [show List.drop 4 t.data.toList = [] from q]
        simp [q]
      · have q' : List.drop 4 t.data.toList ≠ [] := q
        rw [decide_eq_true q', decide_eq_false q]
        rfl
  have htyp : typB t.data.toList = (p2 && (nameOk d && !decide (d.data.toList = linkT))) := by
    unfold typB
    rw [← hp2]
    cases h : p2 with
    | false => rfl
    | true =>
      rw [h] at hp2
      rw [trim_pre _ _ hp2.symm] at hd
      rw [hd, bts_ba]
      by_cases q : List.drop etP.length t.data.toList = linkT
      · rw [show List.drop 4 t.data.toList = linkT from q, q]
        simp
      · have q' : List.drop 4 t.data.toList ≠ linkT := q
        rw [decide_eq_true q', decide_eq_false q]
        rfl
  have hr : Hid (isTarget t = (nameOk t && ((p1 && (!decide (c.data.toList = []) && !isSys c && !decide ((45 : UInt8) ∈ c.data.toList))) || (p2 && (nameOk d && !decide (d.data.toList = linkT)))))) := by
    unfold Hid isTarget
    rw [hcat, htyp]
  clear h1 h2 hc hd hp1 hp2 hcat htyp hds
  cases hn : nameOk t with
  | false =>
    rw [hr.out, hn]
    go_enter Tryz.func89, Tryz.ntmps89
    go_wp2_with (first | (go_at_call 126; refine (H1.out _).mono ?_; rintro e w1 ⟨rfl, rfl⟩; clear H1) | (go_at_call 126; refine (H2.out _).mono ?_; rintro e w1 ⟨rfl, rfl⟩; clear H2) | (go_at_call 69; refine (stream_any t _ ht).mono ?_; rintro e w1 ⟨rfl, rfl⟩; rw [hn]))
    go_ret
    exact ⟨rfl, rfl⟩
  | true =>
    rw [hr.out, hn]
    have hz : (c.toList == []) = decide (c.data.toList = []) := by rw [ByteArray.toList_eq]; cases c.data.toList <;> rfl
    have hy : (d.toList == [36, 62]) = decide (d.data.toList = linkT) := by
      rw [ByteArray.toList_eq]
      by_cases q : d.data.toList = linkT
      · rw [decide_eq_true q, q]
        rfl
      · rw [decide_eq_false q]
        exact beq_eq_false_iff_ne.2 q
    obtain ⟨b1, hb1⟩ : ∃ b1, b1 = decide (c.data.toList = []) := ⟨_, rfl⟩
    obtain ⟨b2, hb2⟩ : ∃ b2, b2 = decide (d.data.toList = linkT) := ⟨_, rfl⟩
    obtain ⟨b3, hb3⟩ : ∃ b3, b3 = decide ((45 : UInt8) ∈ c.data.toList) := ⟨_, rfl⟩
    obtain ⟨b4, hb4⟩ : ∃ b4, b4 = isSys c := ⟨_, rfl⟩
    obtain ⟨b5, hb5⟩ : ∃ b5, b5 = nameOk d := ⟨_, rfl⟩
    have H3 : Hid (∀ W, Calls Tryz.prog 127 #[.string c, .string ⟨#[45]⟩] W fun e w' => e = .returned (.bool b3) ∧ w' = W) := fun W => by
      have := Tryz.strings_Contains_one c 45 W
      rw [has_dash, ← hb3] at this
      exact this
    have H4 : Hid (∀ W, Calls Tryz.prog 83 #[.string c] W fun e w' => e = .returned (.bool b4) ∧ W = w') := fun W => by rw [hb4]; exact system_any c W
    have H5 : Hid (∀ W, Calls Tryz.prog 128 #[.string d] W fun e w' => e = .returned (.bool b5) ∧ W = w') := fun W => by rw [hb5]; exact type_any d W hds'
    rw [← hb1] at hz
    rw [← hb2] at hy
    rw [← hb1, ← hb2, ← hb3, ← hb4, ← hb5]
    clear hb1 hb2 hb3 hb4 hb5 hr hds'
    go_enter Tryz.func89, Tryz.ntmps89
    go_wp2_with (first
      | (go_at_call 126; (have hh := H1); clear H1; refine (hh.out _).mono ?_; clear hh; rintro e w1 ⟨rfl, rfl⟩)
      | (go_at_call 126; (have hh := H2); clear H2; refine (hh.out _).mono ?_; clear hh; rintro e w1 ⟨rfl, rfl⟩)
      | (go_at_call 69; refine (stream_any t _ ht).mono ?_; rintro e w1 ⟨rfl, rfl⟩; rw [hn])
      | (go_at_call 127; refine (H3.out _).mono ?_; rintro e w1 ⟨rfl, rfl⟩)
      | (go_at_call 83; refine (H4.out _).mono ?_; rintro e w1 ⟨rfl, rfl⟩)
      | (go_at_call 128; refine (H5.out _).mono ?_; rintro e w1 ⟨rfl, rfl⟩))
    all_goals
      go_ret
      refine ⟨ret_b ?_, rfl⟩
      clear H3 H4 H5
      simp_all
end Go.Proofs.YtpcemipfanimgaaGreatDoor
/- Appends of a slice that can be read to a row of one's own, as runs: in place, or into a new block. -/
set_option linter.unusedVariables false
set_option linter.unusedSimpArgs false
namespace Go.Proofs.YtpcemipfanimgaaGreatDoor
open Go.RowKit Go
theorem run_append_zero {P : Program} (w : World) (t e ty : TypeId) (A B : Option Addr) (size n cap c : Nat) (ht : P.underlying t = some (.slice e)) (hs : (Go.sizeOf e).run P w = .ok size w) (hnc : n ≤ cap) :
    (Builtin.append_ #[t, t] ty #[.slice A n cap, .slice B 0 c]).run P w = .ok (.slice A n cap) w := by
  cases A <;> cases B <;> simp [Builtin.append_, run_underlying ht, hs, hnc, Builtin.lenOf, Builtin.firstCells, storeCells, loadCells, loadCellsFrom]
theorem run_app {P : Program} {w : World} (t ty : TypeId) (base : Nat) (e : TypeId) (z : Value) (size bytes : Nat) (ht : P.underlying t = some (.slice e)) (hi : (P.info? e).map (fun i => (i.zero, i.size, i.bytes)) = some (some z, size, bytes))
    (hzs : z.cells.size = size) (hsz : 0 < size) {v : Value} {n : Nat} {xs : List Value} (hown : w.ownsRow base e size v n xs) {u : Value} {m : Nat} {cells : List Value} (hsl : Slc w size u m cells)
    (h1 : ∀ u ∈ cells, u.oneCell' = true) (hb : (n + m) * bytes ≤ 140737488355328) (hm : n + m ≤ maxLen) (hbase : base ≤ w.heap.size) :
    ∃ A cap w', (Builtin.append_ #[t, t] ty #[v, u]).run P w = .ok (.slice A (n + m) cap) w' ∧ w'.ownsRow base e size (.slice A (n + m) cap) (n + m) (xs ++ cells) ∧ Only v.ownBlock.toList w w' ∧
      ∀ g, (Value.slice A (n + m) cap).ownBlock = some g → v.ownBlock = some g ∨ w.heap.size ≤ g := by
  obtain ⟨i, hi1, hi2, hi3, hi4⟩ := info_parts hi
  obtain ⟨B, c, rfl, hl, hc1, hc2, hc⟩ := hsl
  by_cases h0 : m = 0
  · subst h0
    have hcn : cells = [] := List.eq_nil_of_length_eq_zero (by rw [hl]; simp)
    subst hcn
    obtain ⟨A, cap, rfl, hnc, _⟩ := own_form hown
    have hs : (Go.sizeOf e).run P w = .ok size w := by simp [Go.sizeOf, typeInfo, hi1, hi3]
    exact ⟨A, cap, w, run_append_zero w t e ty A B size n cap c ht hs hnc, by simpa using hown, Only.refl _ _, fun g hg => .inl hg⟩
  · obtain ⟨b, off, rfl, hb1, hcc⟩ := hc (by omega)
    obtain ⟨g, cap, w', hr, h2, h3, h4, _⟩ := run_append_lies (P := P) w t ty base e i z size bytes ht hi1 hi2 hi3 hi4 hzs hsz v n xs hown ⟨b, off, none⟩ m c cells hl (fun j x hx => by
      have hj : j < cells.length := (List.getElem?_eq_some_iff.1 hx).1
      rw [show ((⟨b, off, none⟩ : Addr).add j) = ⟨b, off + j, none⟩ by simp [Addr.add], hcc j hj, hx]) h1 (by omega) hm hb hbase w.heap.size rfl
    refine ⟨_, cap, w', hr, h2, (Only.refl _ _).grown h3 (fun k hk => .inl (by simp [hk])), fun x hx => ?_⟩
    have hx' : g = x := by simpa [Value.ownBlock] using hx
    subst hx'
    rcases h4 with h4 | h4
    · exact .inl h4
    · exact .inr (by omega)
end Go.Proofs.YtpcemipfanimgaaGreatDoor
/- Lists of stored events in memory that are searched, set and cleared. No program is named. -/
set_option linter.unusedVariables false
set_option linter.unusedSimpArgs false
namespace Go.Proofs.YtpcemipfanimgaaGreatDoor
open Go.RowKit
def idxP (p : StoredR → Bool) : List StoredR → Int → Int
  | [], _ => -1
  | x :: l, k => if p x then k else idxP p l (k + 1)
theorem idxP_drop (p : StoredR → Bool) (l : List StoredR) (k : Nat) (h : k < l.length) (i : Int) : idxP p (l.drop k) i = if p l[k] then i else idxP p (l.drop (k + 1)) (i + 1) := by
  rw [List.drop_eq_getElem_cons h]
  rfl
theorem idxP_spec (p : StoredR → Bool) : ∀ (l : List StoredR) (i : Int), (idxP p l i = -1 ∧ l.filter (fun x => !p x) = l) ∨
    ∃ k : Nat, ∃ hk : k < l.length, idxP p l i = i + k ∧ p l[k] = true ∧ (l.take (k + 1)).filter (fun x => !p x) = l.take k
  | [], i => .inl ⟨rfl, rfl⟩
  | x :: l, i => by
    cases h : p x with
    | true => exact .inr ⟨0, by simp, by simp [idxP, h], by simpa using h, by simp [h]⟩
    | false =>
      rcases idxP_spec p l (i + 1) with ⟨e, ha⟩ | ⟨k, hk, e, ht, ha⟩
      · exact .inl ⟨by simp [idxP, h, e], by rw [List.filter_cons, if_pos (by simp [h]), ha]⟩
      · refine .inr ⟨k + 1, by simpa using hk, ?_, by simpa using ht, ?_⟩
        · simp only [idxP, h, Bool.false_eq_true, if_false, e]
          omega
        · rw [List.take_succ_cons, List.filter_cons, if_pos (by simp [h]), ha, List.take_succ_cons]
theorem set_skip {α : Type} (A L : List α) (hA : A.length = 8) (i r : Nat) (v : α) : (A ++ L).set ((i + 1) * 8 + r) v = A ++ L.set (i * 8 + r) v := by
  rw [List.set_append_right _ _ (by omega)]
  congr 2
  omega
theorem flat_set (z : StoredR) (rest : List Value) : ∀ (ys : List StoredR) (i : Nat), i < ys.length →
    ((((((((ys.flatMap StoredR.cells ++ rest).set (i * 8 + 0) (.int .i64 z.ev.id)).set (i * 8 + 1) (.string z.ev.type)).set (i * 8 + 2) (.string z.ev.data)).set (i * 8 + 3) (.float .f64 z.ev.value)).set (i * 8 + 4) (.string z.stream)).set (i * 8 + 5) (.int .i64 z.version)).set (i * 8 + 6) (.int .i64 z.position)).set (i * 8 + 7) (.int .i64 z.time) =
      (ys.set i z).flatMap StoredR.cells ++ rest
  | [], _, h => absurd h (Nat.not_lt_zero _)
  | y :: ys, 0, _ => by simp [StoredR.cells, EventR.cells]
  | y :: ys, i + 1, h => by
    have hl : y.cells.length = 8 := rfl
    rw [List.flatMap_cons, List.append_assoc]
    rw [set_skip _ _ hl, set_skip _ _ hl, set_skip _ _ hl, set_skip _ _ hl, set_skip _ _ hl, set_skip _ _ hl, set_skip _ _ hl, set_skip _ _ hl]
    rw [flat_set z rest ys i (by simpa using h), List.set_cons_succ, List.flatMap_cons, List.append_assoc]
theorem flat_take : ∀ (ys : List StoredR) (i : Nat), (ys.flatMap StoredR.cells).take (i * 8) = (ys.take i).flatMap StoredR.cells
  | [], i => by simp
  | y :: ys, 0 => by simp
  | y :: ys, i + 1 => by
    have hl : y.cells.length = 8 := rfl
    rw [List.flatMap_cons, List.take_succ_cons, List.flatMap_cons, List.take_append, hl, List.take_of_length_le (by omega), show (i + 1) * 8 - 8 = i * 8 by omega, flat_take ys i]
section
variable {w : World} {g : Nat} {t : TypeId} {cs : Array Value}
theorem Blk.sets : ∀ (zs : List Value) (o : Nat) {w : World} {cs : Array Value} (h : Blk w g t cs), ∃ cs', Blk (w.setCells g o zs) g t cs' ∧ cs'.size = cs.size ∧ ∀ j, j < o → cs'[j]? = cs[j]?
  | [], _, _, cs, h => ⟨cs, h, rfl, fun _ _ => rfl⟩
  | z :: zs, o, _, cs, h => by
    obtain ⟨cs', h1, h2, h3⟩ := Blk.sets zs (o + 1) (h.set o z)
    refine ⟨cs', h1, by rw [h2]; simp, fun j hj => ?_⟩
    rw [h3 j (by omega), Array.getElem?_setIfInBounds, if_neg (by omega)]
theorem Only.setCells {S : List Nat} {a : World} {g : Nat} (hg : g ∈ S ∨ a.heap.size ≤ g) : ∀ (zs : List Value) (o : Nat) {w : World}, Only S a w → Only S a (w.setCells g o zs)
  | [], _, _, h => h
  | z :: zs, o, _, h => Only.setCells hg zs (o + 1) (h.setCell hg z)
/-- Eight cells set: an element. -/
theorem blk_set8 (h : Blk w g t cs) {ys : List StoredR} {rest : List Value} (hc : cs.toList = ys.flatMap StoredR.cells ++ rest) {i : Nat} (hi : i < ys.length) (z : StoredR) :
    ∃ cs', Blk ((((((((w.setCell ⟨g, i * 8, none⟩ (.int .i64 z.ev.id)).setCell ⟨g, i * 8 + 1, none⟩ (.string z.ev.type)).setCell ⟨g, i * 8 + 2, none⟩ (.string z.ev.data)).setCell ⟨g, i * 8 + 3, none⟩ (.float .f64 z.ev.value)).setCell ⟨g, i * 8 + 4, none⟩ (.string z.stream)).setCell ⟨g, i * 8 + 5, none⟩ (.int .i64 z.version)).setCell ⟨g, i * 8 + 6, none⟩ (.int .i64 z.position)).setCell ⟨g, i * 8 + 7, none⟩ (.int .i64 z.time)) g t cs' ∧
      cs'.toList = (ys.set i z).flatMap StoredR.cells ++ rest := by
  refine ⟨_, (((((((h.set _ _).set _ _).set _ _).set _ _).set _ _).set _ _).set _ _).set _ _, ?_⟩
  simp only [Array.toList_setIfInBounds, hc]
  exact flat_set z rest ys i hi
theorem blk_elem (h : Blk w g t cs) {ys : List StoredR} {rest : List Value} (hc : cs.toList = ys.flatMap StoredR.cells ++ rest) {i : Nat} (hi : i < ys.length) {r : Nat} (hr : r < 8) : w.cell? ⟨g, i * 8 + r, none⟩ = (ys[i].cells)[r]? := by
  have hl := flat_len StoredR.cells 8 ys (fun _ _ => rfl)
  have hlt : i * 8 + r < (ys.flatMap StoredR.cells).length := by omega
  rw [h.cell, ← Array.getElem?_toList, hc, List.getElem?_append_left hlt]
  exact flat_get StoredR.cells 8 ys (fun _ _ => rfl) i r hi hr
end
/-- 'clear' of a slice of n > 0 elements of whatever type. -/
theorem run_clearK {P : Program} (w : World) (t e ty : TypeId) (z : Value) (ht : P.underlying t = some (.slice e)) (hv : ∀ w, (zeroValue e).run P w = .ok z w) (h1 : ∀ v ∈ z.cells.toList, v.oneCell' = true) (k : Nat) (hk : z.cells.size = k) (b o n c : Nat) (hn : 0 < n)
    (hc : ∀ j, j < n * k → (w.cell? ⟨b, o + j, none⟩).isSome = true) (hf : ∀ j, j < n * k → w.frozen? ⟨b, o + j, none⟩ = false) :
    (Builtin.clear_ #[t] ty #[.slice (some ⟨b, o, none⟩) n c]).run P w = .ok (.tuple #[]) (w.setCells b o (Builtin.zeroCells z.cells n).toList) := by
  have hl : (Builtin.zeroCells z.cells n).toList.length = n * k := by simp [Builtin.zeroCells, hk]
  have hst := run_storeCells_cells (P := P) b o (Builtin.zeroCells z.cells n).toList 0 w (by rw [hl]; simpa using hc) (by rw [hl]; simpa using hf) (by
    intro v hv'
    simp only [Builtin.zeroCells, Array.toList_map, List.mem_map] at hv'
    obtain ⟨i, hi, rfl⟩ := hv'
    rcases Nat.eq_zero_or_pos z.cells.size with q | q
    · simp [q] at hi
    · have hm := Nat.mod_lt i q
      rw [getElem!_pos z.cells (i % z.cells.size) hm]
      exact h1 _ (by simp))
  simp only [Nat.add_zero] at hst
  obtain ⟨m, rfl⟩ : ∃ m, n = m + 1 := ⟨n - 1, by omega⟩
  simp [Builtin.clear_, run_underlying ht, hv, hst]
/-! ## an own row as a block -/
theorem own_blk {w : World} {base : Nat} {v : Value} {xs : List StoredR} {e : TypeId} (h : w.ownsRow base e 8 v xs.length (xs.flatMap StoredR.cells)) : (v = .slice none 0 0 ∧ xs = []) ∨
    ∃ g cap cs rest, v = .slice (some ⟨g, 0, none⟩) xs.length cap ∧ base ≤ g ∧ Blk w g e cs ∧ xs.length ≤ cap ∧ cap ≤ maxLen ∧ cs.size = cap * 8 ∧ cs.toList = xs.flatMap StoredR.cells ++ rest := by
  obtain ⟨h1, h2⟩ := h
  rcases h2 with ⟨rfl, q⟩ | ⟨g, cap, cur, rfl, hb, hg, hn, hc, hs, ht⟩
  · exact .inl ⟨rfl, List.length_eq_zero_iff.1 q⟩
  · refine .inr ⟨g, cap, cur, cur.toList.drop (xs.length * 8), rfl, hb, hg, hn, hc, hs, ?_⟩
    rw [← ht]
    exact (List.take_append_drop _ _).symm
theorem blk_own {w : World} {base : Nat} {xs : List StoredR} {e : TypeId} {g cap : Nat} {cs : Array Value} (hb : base ≤ g) (hg : Blk w g e cs) (hn : xs.length ≤ cap) (hm : cap ≤ maxLen) (hs : cs.size = cap * 8) (ht : cs.toList.take (xs.length * 8) = xs.flatMap StoredR.cells) :
    w.ownsRow base e 8 (.slice (some ⟨g, 0, none⟩) xs.length cap) xs.length (xs.flatMap StoredR.cells) :=
  ⟨flat_len StoredR.cells 8 xs (fun _ _ => rfl), .inr ⟨g, cap, cs, rfl, hb, hg, hn, hm, hs, ht⟩⟩
/-- What stands at the head of a round: of ys the first i are the kept ones of the first j of xs, from j on it is xs. -/
structure KeptAt (p : StoredR → Bool) (xs ys : List StoredR) (i j : Nat) : Prop where
  len : ys.length = xs.length
  lt : i < j
  le : j ≤ xs.length
  done : ys.take i = (xs.take j).filter (fun x => !p x)
  rest : ys.drop j = xs.drop j
theorem KeptAt.get {p : StoredR → Bool} {xs ys : List StoredR} {i j : Nat} (h : KeptAt p xs ys i j) (hj : j < xs.length) : ∃ h2 : j < ys.length, ys[j] = xs[j] := by
  have h2 : j < ys.length := by rw [h.len]; exact hj
  refine ⟨h2, ?_⟩
  have := h.rest
  rw [List.drop_eq_getElem_cons hj, List.drop_eq_getElem_cons h2] at this
  exact (List.cons.inj this).1
theorem KeptAt.skip {p : StoredR → Bool} {xs ys : List StoredR} {i j : Nat} (h : KeptAt p xs ys i j) (hj : j < xs.length) (hp : p xs[j] = true) : KeptAt p xs ys i (j + 1) := by
  refine ⟨h.len, by have := h.lt; omega, hj, ?_, ?_⟩
  · rw [h.done, List.take_succ_eq_append_getElem hj, List.filter_append]
    simp [hp]
  · rw [← List.drop_drop, ← List.drop_drop, h.rest]
theorem KeptAt.keep {p : StoredR → Bool} {xs ys : List StoredR} {i j : Nat} (h : KeptAt p xs ys i j) (hj : j < xs.length) (hp : p xs[j] = false) : KeptAt p xs (ys.set i xs[j]) (i + 1) (j + 1) := by
  have hlt := h.lt
  have hlen := h.len
  refine ⟨by simpa using h.len, by omega, hj, ?_, ?_⟩
  · rw [List.take_succ_eq_append_getElem hj, List.filter_append, ← h.done, List.take_succ_eq_append_getElem (by simp; omega)]
    rw [List.take_set_of_le (Nat.le_refl _)]
    simp [hp]
  · rw [List.drop_set_of_lt (by omega), ← List.drop_drop, ← List.drop_drop, h.rest]
theorem KeptAt.start {p : StoredR → Bool} {xs : List StoredR} {k : Nat} (hk : k < xs.length) (h : (xs.take (k + 1)).filter (fun x => !p x) = xs.take k) : KeptAt p xs xs k (k + 1) := ⟨rfl, by omega, hk, h.symm, rfl⟩
end Go.Proofs.YtpcemipfanimgaaGreatDoor
/- Contracts: the targets of an event, what a target wants; the laws' own. -/
set_option linter.unusedVariables false
set_option linter.unusedSimpArgs false
namespace Go.Proofs.YtpcemipfanimgaaGreatDoor
open Go Go.RowKit Go.Sort Go.Lib Go.Shelf
set_option maxHeartbeats 800000 in
theorem r1stream_any (s : ByteArray) (w : World) (hs : s.size ≤ maxLen) : Calls Tryz.prog 36 #[.string s] w fun e w' => e = .returned (.bool (nameOk s)) ∧ w = w' := by
  unfold maxLen at hs
  by_cases h1 : s.size < 1
  · go_enter Tryz.func36, Tryz.ntmps36
    go_wp2
    go_ret
    exact ⟨ret_b (by simp [nameOk]; omega), rfl⟩
  · by_cases h2 : 60 < s.size
    · go_enter Tryz.func36, Tryz.ntmps36
      go_wp2
      go_ret
      exact ⟨ret_b (by simp [nameOk]; omega), rfl⟩
    · have hn : Hid (nameOk s = s.data.toList.all okByte) := by
        unfold Hid nameOk
        rw [decide_eq_true (by omega : 1 ≤ s.size), decide_eq_true (by omega : s.size ≤ 60)]
        simp
      go_enter Tryz.func36, Tryz.ntmps36
      go_wp2
      go_loop [3] (fun i => ∃ k : Nat, k ≤ s.size ∧ i = .int .i64 k ∧ Hid ((s.data.toList.take k).all okByte = true)) (fun i => s.size - (intOf i).toNat)
      case atStart => exact ⟨0, Nat.zero_le _, rfl, by simp [Hid]⟩
      case round =>
        obtain ⟨k, hk, rfl, hT⟩ := hrel
        by_cases hlt : k < s.size
        · have hb256 : (s[k].toNat : Int) < 256 := by have := s[k].toNat_lt; omega
          have hnext : Hid (okByte s[k] = true → (s.data.toList.take (k + 1)).all okByte = true) := by
            intro q
            rw [all_take k hlt, hT.out, q]
            rfl
          have hend : Hid (okByte s[k] = false → nameOk s = false) := by
            intro q
            rw [hn.out]
            exact all_false (k := k) (by simpa using hlt) q
          by_cases c1 : (s[k].toNat : Int) < 33
          · have hq : Hid (nameOk s = false) := hend.out (by simp only [okByte, decide_eq_true c1]; simp)
            clear hend hnext
            go_wp2
            go_ret
            exact ⟨ret_b (by rw [hq.out]), rfl⟩
          · by_cases c2 : 126 < (s[k].toNat : Int)
            · have hq : Hid (nameOk s = false) := hend.out (by simp only [okByte, decide_eq_true c2]; simp)
              clear hend hnext
              go_wp2
              go_ret
              exact ⟨ret_b (by rw [hq.out]), rfl⟩
            · by_cases c3 : (s[k].toNat : Int) = 64
              · have e3 : ((s[k].toNat : Int) == 64) = true := by simpa using c3
                have hq : Hid (nameOk s = false) := hend.out (by simp only [okByte, c3]; simp)
                clear hend hnext c3
                go_wp2
                go_ret
                exact ⟨ret_b (by rw [hq.out]), rfl⟩
              · have e3 : ((s[k].toNat : Int) == 64) = false := by simpa using c3
                have hq := Lib.hid (hnext.out (by simp only [okByte, decide_eq_false c1, decide_eq_false c2, decide_eq_false c3]; rfl))
                clear hend hnext c3
                go_wp2
                go_round
                case rel => exact ⟨k + 1, hlt, by go_num, hq⟩
                case measure => simp [intOf]; omega
        · have hfin : Hid (nameOk s = true) := by
            have := hT.out
            rw [List.take_of_length_le (by simp; omega)] at this
            unfold Hid
            rw [hn.out, this]
          go_wp2
          go_ret
          exact ⟨ret_b (by rw [hfin.out]), rfl⟩
theorem infoS : (Tryz.prog.info? 9).map (fun i => (i.zero, i.size, i.bytes)) = some (some (.string ⟨#[]⟩), 1, 16) := by kernel_rfl
theorem strs_one (l : List ByteArray) : ∀ u ∈ strs l, u.oneCell' = true := by
  intro u hu
  obtain ⟨x, _, rfl⟩ := List.mem_map.1 hu
  rfl
theorem slc_new1 {w : World} {e : TypeId} {size : Nat} {cs : List Value} (hs : cs.length = 1 * size) : Slc (w.alloc (.cells cs.toArray e)) size (.slice (some ⟨w.heap.size, 0, none⟩) 1 1) 1 cs := by
  have hb := Blk.new w e cs.toArray
  refine ⟨_, 1, rfl, hs, Nat.le_refl _, by simp [maxLen], fun _ => ⟨w.heap.size, 0, rfl, hb.lt, fun j hj => ?_⟩⟩
  rw [Nat.zero_add, hb.cell j]
  simp
theorem slc_take {w : World} {size n cap k : Nat} {A : Option Addr} {cs : List Value} (h : Slc w size (.slice A n cap) n cs) (hk : k ≤ n) : Slc w size (.slice A k cap) k (cs.take (k * size)) := by
  obtain ⟨A', cap', e, h1, h2, h3, h4⟩ := h
  injection e with e1 e2 e3
  subst e1 e3
  have hm : k * size ≤ n * size := Nat.mul_le_mul_right _ hk
  refine ⟨A, cap, rfl, by rw [List.length_take, h1]; omega, by omega, h3, fun hn => ?_⟩
  obtain ⟨b, off, rfl, hb, hc⟩ := h4 (by omega)
  refine ⟨b, off, rfl, hb, fun j hj => ?_⟩
  rw [List.length_take] at hj
  rw [hc j (by omega), List.getElem?_take, if_pos (by omega)]
/-! ## DeleteFunc of texts that are not too long, by a closure that holds nothing -/
structure NB where
  b : ByteArray
  ok : b.size ≤ maxLen
instance : Inhabited NB := ⟨⟨⟨#[]⟩, Nat.zero_le _⟩⟩
def nbV (x : NB) : Value := .string x.b
theorem oneNB : OneCell nbV := fun _ => rfl
theorem only_putRowN (w : World) (g q : Nat) (d : Array NB) : Only [g] w (putRow nbV (Sort.ahead w q) g 0 d) :=
  ⟨rfl, rfl, rfl, by simp [putRow, mapBlock, Sort.ahead], fun k _ hk => by
    have : g ≠ k := by simp at hk; omega
    simp [putRow, mapBlock, Sort.ahead, Array.getElem?_modify, this]⟩
theorem zeroStr (w : World) : (zeroValue 9).run Tryz.prog w = .ok (.string ⟨#[]⟩) w := by kernel_rfl
theorem enterKT1 : ∀ args w, (callFunc 88 args).run Tryz.prog w = .ok (.enter 88 args) w := enters_of Tryz.func88 (by kernel_rfl) rfl
theorem kt1_at (W : World) (x : NB) : FnGives Tryz.prog 88 #[] #[nbV x] (.bool (!isTarget x.1)) W := by
  show Calls Tryz.prog 88 #[.string x.1] W _
  go_enter Tryz.func88, Tryz.ntmps88
  go_wp2_with (go_at_call 89; refine (is_any x.1 _ x.2).mono ?_; rintro e w1 ⟨rfl, rfl⟩)
  go_ret
  exact ⟨rfl, 0, rfl⟩
def nbs (l : List ByteArray) (h : ∀ x ∈ l, x.size ≤ maxLen) : List NB := l.pmap (fun x hx => ⟨x, hx⟩) h
theorem nbs_val (l : List ByteArray) (h : ∀ x ∈ l, x.size ≤ maxLen) : (nbs l h).map (·.1) = l := by
  induction l with
  | nil => rfl
  | cons a l ih =>
    have := ih (fun x hx => h x (by simp [hx]))
    simp only [nbs, List.pmap_cons, List.map_cons] at this ⊢
    rw [this]
theorem nbs_strs (l : List ByteArray) (h : ∀ x ∈ l, x.size ≤ maxLen) : (nbs l h).map nbV = strs l := by
  have : nbV = Value.string ∘ (fun x : NB => x.1) := rfl
  rw [this, ← List.map_map, nbs_val]
  rfl
theorem delT_any {w : World} {base : Nat} {v : Value} {ns : List ByteArray} (hown : w.ownsRow base 9 1 v ns.length (strs ns)) (hl : ns.length ≤ 1000000) (hne : v ≠ .slice none 0 0) (hsz : ∀ x ∈ ns, x.size ≤ maxLen) :
    Calls Tryz.prog 87 #[v, .func (.func 88) #[] #[]] w fun e w' => ∃ v', e = .returned v' ∧
      w'.ownsRow base 9 1 v' (ns.filter isTarget).length (strs (ns.filter isTarget)) ∧ ∃ S, Only S w w' ∧ ∀ k ∈ S, base ≤ k := by
  have hlen : (nbs ns hsz).length = ns.length := List.length_pmap ..
  have hown' : w.ownsRow base 9 1 v (nbs ns hsz).length ((nbs ns hsz).map nbV) := by rw [hlen, nbs_strs]; exact hown
  obtain ⟨g, cap, rfl, hb, hg, hn, hm, hz, hH⟩ := holds_of_ownsRow (enc := nbV) (zs := nbs ns hsz) hown' hne
  have := AnyE.slices_DeleteFunc Tryz.delFunc nbV oneNB (fun x => !isTarget x.1) 88 #[] enterKT1 ⟨⟨#[]⟩, Nat.zero_le _⟩ zeroStr g 0 cap (nbs ns hsz).toArray w
    (fun W x _ => kt1_at W x) (fun n os dk x _ => kt1_at _ x) hH (by simp [hlen]; omega) (by simpa using hn)
  rw [show (nbs ns hsz).toArray.size = (nbs ns hsz).length by simp] at this
  have hfil : ((nbs ns hsz).filter (fun x => !!isTarget x.1)).map (·.1) = ns.filter isTarget := by
    have e : (fun x : NB => !!isTarget x.1) = isTarget ∘ (fun x : NB => x.1) := by funext x; simp
    rw [e, ← List.filter_map, nbs_val]
  have hfs : ((nbs ns hsz).filter (fun x => !!isTarget x.1)).map nbV = strs (ns.filter isTarget) := by
    have : nbV = Value.string ∘ (fun x : NB => x.1) := rfl
    rw [this, ← List.map_map, hfil]
    rfl
  have hfl : ((nbs ns hsz).filter (fun x => !!isTarget x.1)).length = (ns.filter isTarget).length := by
    have := congrArg List.length hfil
    simpa using this
  refine Calls.mono this ?_
  rintro e w' ⟨rfl, q, rfl⟩
  simp only []
  have hle : ((nbs ns hsz).filter fun x => !!isTarget x.1).length ≤ (nbs ns hsz).length := List.length_filter_le _ _
  have hr := ownsRow_putRow (enc := nbV) (q := q) (ys := ((nbs ns hsz).filter fun x => !!isTarget x.1) ++ List.replicate ((nbs ns hsz).length - ((nbs ns hsz).filter fun x => !!isTarget x.1).length) (⟨⟨#[]⟩, Nat.zero_le _⟩ : NB)) (k := ((nbs ns hsz).filter fun x => !!isTarget x.1).length) hown' (by rw [List.length_append, List.length_replicate]; omega) hle
  rw [List.take_left, hfs, hfl] at hr
  rw [hfl]
  exact ⟨_, rfl, hr, [g], only_putRowN w g q _, by simp; omega⟩
def preTargets (s : StoredR) : List ByteArray := (cat s.stream).toList.map ofCat ++ [ofTyp s.ev.type]
/-- An append of one text to a row of one's own. -/
theorem app1 {W : World} {base : Nat} {v : Value} {l : List ByteArray} (hown : W.ownsRow base 9 1 v l.length (strs l)) (hb : base ≤ W.heap.size) (hl : l.length ≤ 1000000) (c : ByteArray) :
    ∃ A cap w', (Builtin.append_ #[51, 51] 51 #[v, .slice (some ⟨W.heap.size, 0, none⟩) 1 1]).run Tryz.prog (W.alloc (.cells #[.string c] 9)) = .ok (.slice A (l.length + 1) cap) w' ∧ w'.ownsRow base 9 1 (.slice A (l.length + 1) cap) (l ++ [c]).length (strs (l ++ [c])) ∧ Only v.ownBlock.toList (W.alloc (.cells #[.string c] 9)) w' := by
  obtain ⟨A, cap, w', h1, h2, h3, _⟩ := run_app (P := Tryz.prog) (w := W.alloc (.cells #[.string c] 9)) 51 51 base 9 (.string ⟨#[]⟩) 1 16 Tryz.underlying51 infoS rfl (by decide) (hown.alloc _) (slc_new1 (w := W) (e := 9) (cs := [.string c]) rfl) (by simp [Value.oneCell']) (by omega) (by unfold maxLen; omega) (Nat.le_trans hb (by simp))
  refine ⟨A, cap, w', h1, ?_, h3⟩
  rw [List.length_append]
  simpa [strs] using h2
theorem targets_size {s : StoredR} (h : s.ev.type.size ≤ 1000000) : ∀ x ∈ preTargets s, x.size ≤ 1000004 := by
  intro x hx
  unfold preTargets at hx
  rcases List.mem_append.1 hx with hx | hx
  · obtain ⟨c, hc, rfl⟩ := List.mem_map.1 hx
    have hc : cat s.stream = some c := by simpa using hc
    obtain ⟨h1, _, _, h4, _⟩ := cat_some hc
    have h2 := (nameOk_size h1).2
    have h3 := pre_le 45 s.stream.data.toList
    have e : (ofCat c).size = (ofCat c).data.toList.length := by simp
    have e2 : s.stream.data.toList.length = s.stream.size := by simp
    rw [e]
    unfold ofCat
    rw [bts_ba, List.length_append, h4, bts_ba]
    simp only [ceP, List.length_cons, List.length_nil]
    omega
  · rw [List.mem_singleton] at hx
    subst hx
    have e : (ofTyp s.ev.type).size = (ofTyp s.ev.type).data.toList.length := by simp
    have e2 : s.ev.type.data.toList.length = s.ev.type.size := by simp
    rw [e]
    unfold ofTyp
    rw [bts_ba, List.length_append]
    simp only [etP, List.length_cons, List.length_nil]
    omega
set_option maxRecDepth 100000 in
set_option maxHeartbeats 2000000 in
theorem targets_any {w : World} (s : StoredR) (h1 : s.stream.size ≤ maxLen) (h2 : s.ev.type.size ≤ 1000000) :
    Calls Tryz.prog 42 #[s.val] w fun e w' => ∃ v, e = .returned v ∧ w'.ownsRow w.heap.size 9 1 v (targetsOf s).length (strs (targetsOf s)) ∧ Only [] w w' := by
  have hsf := stF
  have hz : (s.ev.type.toList == [36, 62]) = decide (s.ev.type.data.toList = linkT) := by
    rw [ByteArray.toList_eq]
    by_cases q : s.ev.type.data.toList = linkT
    · rw [decide_eq_true q, q]
      rfl
    · rw [decide_eq_false q]
      exact beq_eq_false_iff_ne.2 q
  obtain ⟨t, ht⟩ : ∃ t, t = targetsOf s := ⟨_, rfl⟩
  have HT := Lib.hid ht
  rw [← ht]
  unfold targetsOf at ht
  unfold StoredR.val
  cases hy : isSys s.stream with
  | true =>
    rw [hy, if_pos (.inl rfl)] at ht
    subst ht
    go_enter Tryz.func42, Tryz.ntmps42
    go_wp2_with (go_at_call 83; refine (system_any _ _).mono ?_; rintro e w1 ⟨rfl, rfl⟩; rw [hy])
    go_ret
    exact ⟨_, rfl, World.ownsRow_nil _ _ _ _, (Only.refl [] w).alloc _⟩
  | false =>
    by_cases hl : s.ev.type.data.toList = linkT
    · rw [if_pos (.inr hl)] at ht
      subst ht
      rw [decide_eq_true hl] at hz
      clear hl
      go_enter Tryz.func42, Tryz.ntmps42
      go_wp2_with (go_at_call 83; refine (system_any _ _).mono ?_; rintro e w1 ⟨rfl, rfl⟩; rw [hy])
      go_ret
      exact ⟨_, rfl, World.ownsRow_nil _ _ _ _, (Only.refl [] w).alloc _⟩
    · rw [decide_eq_false hl] at hz
      rw [hy, if_neg (by simpa using hl)] at ht
      have hsz := targets_size h2
      unfold preTargets at hsz
      clear hl
      have HC := Lib.hid (fun W => category_any s.stream W h1)
      unfold catT at HC
      have HD := Lib.hid (fun (W : World) (base : Nat) (v : Value) (ns : List ByteArray) (e : ns = (cat s.stream).toList.map ofCat ++ [ofTyp s.ev.type]) (hown : W.ownsRow base 9 1 v ns.length (strs ns)) (hl : ns.length ≤ 1000000) (hne : v ≠ .slice none 0 0) => by
        have := delT_any hown hl hne (fun x hx => by rw [e] at hx; have := hsz x hx; unfold maxLen; omega)
        rw [e, ← ht] at this
        exact this)
      cases hc : cat s.stream with
      | none =>
        rw [hc] at HC HD
        clear ht hsz
        go_enter Tryz.func42, Tryz.ntmps42
        go_wp2_with (first
          | (go_at_call 83; refine (system_any _ _).mono ?_; rintro e w1 ⟨rfl, rfl⟩; rw [hy])
          | (go_at_call 84; refine (HC.out _).mono ?_; rintro e w1 ⟨rfl, ho1⟩
             have q1 := fun i => (ho1.blk (Blk.new w _ _) (by simp)).cell i)
          | (go_at_call 86; refine (ofTyp_any _ _ h2).mono ?_; rintro e w2 ⟨rfl, rfl⟩
             obtain ⟨A4, c4, w4, hr4, hown4, hO4⟩ := app1 (W := w1) (base := w1.heap.size) (World.ownsRow_nil w1 w1.heap.size 9 1) (Nat.le_refl _) (l := []) (by simp) (ofTyp s.ev.type)
             have HR4 := Lib.hid hr4
             clear hr4)
          | (at_builtin; refine Lib.wpList_append_run _ rfl (.tmp 27) (.tmp 32) 51 51 rfl _ _ rfl rfl _ _ HR4.out ?_)
          | (go_at_call 87; refine (HD.out _ _ _ _ rfl hown4 (by simp) (by simp)).mono ?_; rintro e w5 ⟨v5, rfl, hr5, S5, ho5, hS5⟩))
        go_ret
        have k1 := ho1.size
        simp at k1
        have hO5 : Only [] w w5 := (((((Only.refl [] w).alloc _).trans ho1).alloc _).trans (by simpa [Value.ownBlock] using hO4)).step ho5 (fun g hg => .inr (by have := hS5 g hg; omega))
        exact ⟨_, rfl, own_base hr5 (by omega), hO5⟩
      | some c =>
        rw [hc] at HC HD
        have hc60 : c.size ≤ 1000000 := by
          obtain ⟨g1, _, _, g4, _⟩ := cat_some hc
          have g2 := (nameOk_size g1).2
          have g3 := pre_le 45 s.stream.data.toList
          have e1 : c.size = c.data.toList.length := by simp
          have e2 : s.stream.data.toList.length = s.stream.size := by simp
          rw [e1, g4, bts_ba]
          omega
        clear ht hsz
        go_enter Tryz.func42, Tryz.ntmps42
        go_wp2_with (first
          | (go_at_call 83; refine (system_any _ _).mono ?_; rintro e w1 ⟨rfl, rfl⟩; rw [hy])
          | (go_at_call 84; refine (HC.out _).mono ?_; rintro e w1 ⟨rfl, ho1⟩
             have q1 := fun i => (ho1.blk (Blk.new w _ _) (by simp)).cell i)
          | (go_at_call 85; refine (ofCat_any _ _ hc60).mono ?_; rintro e w2 ⟨rfl, rfl⟩
             obtain ⟨A3, c3, w3, hr3, hown3, hO3⟩ := app1 (W := w1) (base := w1.heap.size) (World.ownsRow_nil w1 w1.heap.size 9 1) (Nat.le_refl _) (l := []) (by simp) (ofCat c)
             have ho3 : Only [] w1 w3 := ((Only.refl [] w1).alloc _).trans (by simpa [Value.ownBlock] using hO3)
             have q3 := fun i => (ho3.blk (ho1.blk (Blk.new w _ _) (by simp)) (by simp)).cell i
             have HR3 := Lib.hid hr3
             clear hr3)
          | (go_at_call 86; refine (ofTyp_any _ _ h2).mono ?_; rintro e w2 ⟨rfl, rfl⟩
             obtain ⟨A4, c4, w4, hr4, hown4, hO4⟩ := app1 (W := w3) (base := w1.heap.size) hown3 ho3.size (by simp) (ofTyp s.ev.type)
             have HR4 := Lib.hid hr4
             clear hr4)
          | (at_builtin; refine Lib.wpList_append_run _ rfl (.tmp 22) (.tmp 25) 51 51 rfl _ _ rfl rfl _ _ HR3.out ?_)
          | (at_builtin; refine Lib.wpList_append_run _ rfl (.tmp 27) (.tmp 32) 51 51 rfl _ _ rfl rfl _ _ HR4.out ?_)
          | (go_at_call 87; refine (HD.out _ _ _ _ rfl hown4 (by simp) (by simp)).mono ?_; rintro e w5 ⟨v5, rfl, hr5, S5, ho5, hS5⟩))
        go_ret
        have k1 := ho1.size
        simp at k1
        have hb3 := fun g hg => (World.ownsRow.lt hown3 g hg).1
        have hO5 : Only [] w w5 := ((((((Only.refl [] w).alloc _).trans ho1).trans ho3).alloc _).step hO4 (fun g hg => .inr (by have := hb3 g (by simpa using hg); omega))).step ho5 (fun g hg => .inr (by have := hS5 g hg; omega))
        exact ⟨_, rfl, own_base hr5 (by omega), hO5⟩
end Go.Proofs.YtpcemipfanimgaaGreatDoor
/- Contracts: what a target wants, as the code tells it and as the laws do. -/
set_option linter.unusedVariables false
set_option linter.unusedSimpArgs false
namespace Go.Proofs.YtpcemipfanimgaaGreatDoor
open Go Go.RowKit Go.Sort Go.Lib Go.Shelf
theorem toList_dec (a b : ByteArray) : (a.toList == b.toList) = decide (a = b) := by
  rw [ByteArray.toList_eq, ByteArray.toList_eq]
  by_cases q : a = b
  · rw [q]; simp
  · rw [decide_eq_false q, beq_eq_false_iff_ne]
    exact fun e => q (bts_inj e)
theorem toList_lit (a : ByteArray) (l : List UInt8) : (a.toList == l) = decide (a.data.toList = l) := by
  rw [ByteArray.toList_eq]
  by_cases q : a.data.toList = l
  · rw [decide_eq_true q, q]; simp
  · rw [decide_eq_false q, beq_eq_false_iff_ne]
    exact q
theorem contains_any {w : World} {v : Value} {l : List ByteArray} (h : Slc w 1 v l.length (strs l)) (t : ByteArray) (hl : l.length ≤ 1000000) :
    Calls Tryz.prog 41 #[v, .string t] w fun e w' => e = .returned (.bool (l.any (fun x => decide (x = t)))) ∧ w' = w := by
  obtain ⟨A, cap, rfl, h1, h2, h3⟩ := h.openS
  have hany : l.any (fun x => decide (x = t)) = Lib.containsS l t := by
    rw [Bool.eq_iff_iff, Lib.containsS_iff, List.any_eq_true]
    constructor
    · rintro ⟨x, hx, q⟩
      rw [← of_decide_eq_true q]
      exact hx
    · exact fun q => ⟨t, q, decide_eq_true rfl⟩
  rw [hany]
  by_cases h0 : l.length = 0
  · have : l = [] := List.length_eq_zero_iff.1 h0
    subst this
    exact Tryz.slices_Contains_string_empty _ _ _ _
  · obtain ⟨b, off, rfl, hb, _⟩ := h3 0 (by omega)
    have := Tryz.slices_Contains_string b off l.length cap l t w (Nat.le_refl _) (by omega) (fun j hj => by
      obtain ⟨b', off', e, _, hc⟩ := h3 j hj
      cases e
      rw [hc]
      simp [List.getD, hj])
    rw [List.take_length] at this
    exact this
set_option maxRecDepth 100000 in
set_option maxHeartbeats 1000000 in
theorem wants_any {w : World} (t : ByteArray) (s : StoredR) (h1 : s.stream.size ≤ maxLen) (h2 : s.ev.type.size ≤ 1000000) :
    Calls Tryz.prog 11 #[.string t, s.val] w fun e w' => e = .returned (.bool (wantsT t s)) ∧ Only [] w w' := by
  have hsf := stF
  have HT := Lib.hid (fun W => targets_any (w := W) s h1 h2)
  have hlen : (targetsOf s).length ≤ 1000000 := by
    unfold targetsOf
    split
    · simp
    · refine Nat.le_trans (List.length_filter_le _ _) ?_
      rw [List.length_append, List.length_map]
      cases cat s.stream <;> simp
  unfold StoredR.val at HT ⊢
  unfold wantsT
  go_enter Tryz.func11, Tryz.ntmps11
  go_wp2_with (first
    | (go_at_call 42; refine (HT.out _).mono ?_; rintro e w1 ⟨v1, rfl, hown1, ho1⟩)
    | (go_at_call 41; refine (contains_any (Slc.of_own hown1).1 t hlen).mono ?_; rintro e w2 ⟨rfl, rfl⟩))
  go_ret
  exact ⟨rfl, ((Only.refl [] w).alloc _).trans ho1⟩
theorem r1system_any (s : ByteArray) (w : World) (hs : s.size ≤ maxLen) : Calls Tryz.prog 43 #[.string s] w fun e w' => e = .returned (.bool (isSys s)) ∧ w = w' := by
  unfold maxLen at hs
  rw [isSys_eq]
  have hl : s.data.toList.length = s.size := by simp
  by_cases h : 0 < s.size
  · have hb256 : (s[0].toNat : Int) < 256 := by have := s[0].toNat_lt; omega
    have h0 : s.data.toList.head? = some s[0] := by
      rw [List.head?_eq_getElem?, List.getElem?_eq_getElem (by omega)]
      simp
      rfl
    rw [h0, decide_eq_true h]
    by_cases q : s[0] = 36
    · have e1 : ((s[0].toNat : Int) == 36) = true := by rw [q]; rfl
      rw [decide_eq_true (by rw [q])]
      clear q h0
      go_enter Tryz.func43, Tryz.ntmps43
      go_wp2
      go_ret
      exact ⟨rfl, rfl⟩
    · have e1 : ((s[0].toNat : Int) == 36) = false := by
        rw [beq_eq_false_iff_ne]
        intro e
        apply q
        apply UInt8.toNat_inj.1
        have h36 : (36 : UInt8).toNat = 36 := rfl
        omega
      rw [decide_eq_false (by intro e; injection e with e; exact q e)]
      clear q h0
      go_enter Tryz.func43, Tryz.ntmps43
      go_wp2
      go_ret
      exact ⟨rfl, rfl⟩
  · rw [decide_eq_false h]
    go_enter Tryz.func43, Tryz.ntmps43
    go_wp2
    go_ret
    exact ⟨rfl, rfl⟩
theorem pre_at {b : UInt8} : ∀ {l : List UInt8} {k : Nat}, (∀ x ∈ l.take k, x ≠ b) → l[k]? = some b → preOf b l = l.take k ∧ b ∈ l
  | [], k, _, h => by simp at h
  | a :: l, 0, _, h => by
    simp at h
    subst h
    simp [preOf]
  | a :: l, k + 1, h1, h2 => by
    have ha : a ≠ b := h1 a (by simp)
    obtain ⟨e1, e2⟩ := pre_at (l := l) (k := k) (fun x hx => h1 x (by simp [hx])) (by simpa using h2)
    refine ⟨?_, by simp [e2]⟩
    unfold preOf at e1 ⊢
    rw [List.takeWhile_cons, if_pos (by simpa using ha), e1]
    rfl
theorem get_toNat {s : ByteArray} {k : Nat} (h : k < s.size) (b : UInt8) : ((s[k].toNat : Int) == (b.toNat : Int)) = decide (s[k] = b) := by
  by_cases q : s[k] = b
  · rw [q]; simp
  · rw [decide_eq_false q, beq_eq_false_iff_ne]
    intro e
    exact q (UInt8.toNat_inj.1 (by omega))
theorem take_none {s : ByteArray} {k : Nat} {b : UInt8} (h : k < s.size) (h1 : ∀ x ∈ s.data.toList.take k, x ≠ b) (h2 : s[k] ≠ b) : ∀ x ∈ s.data.toList.take (k + 1), x ≠ b := by
  intro x hx
  rw [List.take_succ_eq_append_getElem (by simpa using h)] at hx
  rcases List.mem_append.1 hx with q | q
  · exact h1 x q
  · rw [List.mem_singleton] at q
    subst q
    exact h2
theorem take_hit {s : ByteArray} {k : Nat} {b : UInt8} (h : k < s.size) (h2 : s[k] = b) : s.data.toList[k]? = some b := by
  rw [List.getElem?_eq_getElem (by simpa using h)]
  congr 1
set_option maxRecDepth 100000 in
set_option maxHeartbeats 1000000 in
theorem r1category_any (s : ByteArray) (w : World) (hs : s.size ≤ maxLen) : Calls Tryz.prog 24 #[.string s] w fun e w' => e = .returned (.tuple #[.string (catT s), .bool (cat s).isSome]) ∧ Only [] w w' := by
  have hs' := hs
  unfold maxLen at hs'
  obtain ⟨r, hr⟩ : ∃ r : ByteArray × Bool, r = (catT s, (cat s).isSome) := ⟨_, rfl⟩
  have hr1 : Hid (catT s = r.1 ∧ (cat s).isSome = r.2) := by rw [hr]; exact ⟨rfl, rfl⟩
  rw [hr1.out.1, hr1.out.2]
  have hno : Hid (∀ (q : ¬(nameOk s = true ∧ isSys s = false ∧ (45 : UInt8) ∈ s.data.toList ∧ preOf 45 s.data.toList ≠ [])), r.1 = ⟨#[]⟩ ∧ r.2 = false) := by
    intro q
    rw [hr]
    unfold catT cat
    rw [if_neg q]
    exact ⟨rfl, rfl⟩
  have hyes : Hid (∀ (q : nameOk s = true ∧ isSys s = false ∧ (45 : UInt8) ∈ s.data.toList ∧ preOf 45 s.data.toList ≠ []), r.1 = ba (preOf 45 s.data.toList) ∧ r.2 = true) := by
    intro q
    rw [hr]
    unfold catT cat
    rw [if_pos q]
    exact ⟨rfl, rfl⟩
  clear hr hr1
  obtain ⟨r1, r2⟩ := r
  cases h3 : nameOk s with
  | false =>
    obtain ⟨rfl, rfl⟩ : r1 = ⟨#[]⟩ ∧ r2 = false := hno.out (fun q => by rw [h3] at q; simp at q)
    go_enter Tryz.func24, Tryz.ntmps24
    go_wp2_with (go_at_call 36; refine (r1stream_any s _ hs).mono ?_; rintro e w' ⟨rfl, rfl⟩; rw [h3])
    go_ret2
    exact ⟨rfl, Only.refl _ _⟩
  | true =>
    cases h4 : isSys s with
    | true =>
      obtain ⟨rfl, rfl⟩ : r1 = ⟨#[]⟩ ∧ r2 = false := hno.out (fun q => by rw [h4] at q; simp at q)
      go_enter Tryz.func24, Tryz.ntmps24
      go_wp2_with (first | (go_at_call 36; refine (r1stream_any s _ hs).mono ?_; rintro e w' ⟨rfl, rfl⟩; rw [h3]) | (go_at_call 43; refine (r1system_any s _ hs).mono ?_; rintro e w' ⟨rfl, rfl⟩; rw [h4]))
      go_ret2
      exact ⟨rfl, Only.refl _ _⟩
    | false =>
      go_enter Tryz.func24, Tryz.ntmps24
      go_wp2_with (first | (go_at_call 36; refine (r1stream_any s _ hs).mono ?_; rintro e w' ⟨rfl, rfl⟩; rw [h3]) | (go_at_call 43; refine (r1system_any s _ hs).mono ?_; rintro e w' ⟨rfl, rfl⟩; rw [h4]))
      go_loop [4] (fun i => ∃ k : Nat, k ≤ s.size ∧ i = .int .i64 k ∧ Hid (∀ x ∈ s.data.toList.take k, x ≠ 45)) (fun i => s.size - (intOf i).toNat)
      case atStart => exact ⟨0, Nat.zero_le _, rfl, by simp [Hid]⟩
      case round =>
        obtain ⟨k, hk, rfl, hT⟩ := hrel
        by_cases hlt : k < s.size
        · have hb := get_toNat hlt 45
          have h45 : ((45 : UInt8).toNat : Int) = 45 := rfl
          rw [h45] at hb
          by_cases hq : s[k] = 45
          · rw [decide_eq_true hq] at hb
            obtain ⟨p1, p2⟩ := pre_at hT.out (take_hit hlt hq)
            have hx := ext_take s k hk
            have hfin : Hid (r1 = s.extract 0 k ∧ r2 = decide (0 < k)) := by
              by_cases h0 : k = 0
              · subst h0
                obtain ⟨rfl, rfl⟩ : r1 = ⟨#[]⟩ ∧ r2 = false := hno.out (fun q => q.2.2.2 (by rw [p1]; rfl))
                exact ⟨by rw [hx]; rfl, rfl⟩
              · have hne : preOf 45 s.data.toList ≠ [] := by
                  rw [p1]
                  intro q
                  have q2 := congrArg List.length q
                  rw [List.length_take] at q2
                  have hl : s.data.toList.length = s.size := by simp
                  simp only [List.length_nil] at q2
                  omega
                obtain ⟨e1, e2⟩ := hyes.out ⟨h3, h4, p2, hne⟩
                exact ⟨by rw [hx, ← p1]; exact e1, by rw [decide_eq_true (by omega)]; exact e2⟩
            clear p1 p2 hx hq h45
            go_wp2
            go_ret2
            obtain ⟨e1, e2⟩ := hfin.out
            rw [e1, e2]
            refine ⟨?_, Only.refl _ _⟩
            simp
          · rw [decide_eq_false hq] at hb
            have HN := Lib.hid (take_none hlt hT.out hq)
            clear hq h45
            go_wp2
            go_round
            case rel => exact ⟨k + 1, hlt, by go_num, HN⟩
            case measure => simp [intOf]; omega
        · have hkl : k = s.size := by omega
          obtain ⟨rfl, rfl⟩ : r1 = ⟨#[]⟩ ∧ r2 = false := hno.out (fun q => by
            have := hT.out 45 (by rw [List.take_of_length_le (by simp; omega)]; exact q.2.2.1)
            exact this rfl)
          go_wp2
          go_ret2
          exact ⟨rfl, Only.refl _ _⟩
end Go.Proofs.YtpcemipfanimgaaGreatDoor
/- Contracts: numbers in decimal are read. -/
set_option linter.unusedVariables false
set_option linter.unusedSimpArgs false
namespace Go.Proofs.YtpcemipfanimgaaGreatDoor
open Go Go.RowKit Go.Sort Go.Lib Go.Shelf
def valN (l : List UInt8) : Nat := l.foldl (fun n b => 10 * n + (b.toNat - 48)) 0
theorem digit_bd {b : UInt8} (h : digitB b = true) : 48 ≤ b.toNat ∧ b.toNat ≤ 57 := by
  unfold digitB at h
  simp at h
  omega
theorem fold_same : ∀ (l : List UInt8) (n : Nat), l.all digitB = true → l.foldl (fun (n : Int) (b : UInt8) => 10 * n + ((b.toNat : Int) - 48)) (n : Int) = ((l.foldl (fun (n : Nat) (b : UInt8) => 10 * n + (b.toNat - 48)) n : Nat) : Int)
  | [], n, _ => rfl
  | b :: l, n, h => by
    rw [List.all_cons, Bool.and_eq_true] at h
    have hb := digit_bd h.1
    rw [List.foldl_cons, List.foldl_cons, ← fold_same l _ h.2]
    congr 1
    omega
theorem val10_N {l : List UInt8} (h : l.all digitB = true) : val10 l = valN l := fold_same l 0 h
theorem fold_lt : ∀ (l : List UInt8) (n m : Nat), l.all digitB = true → n < 10 ^ m → l.foldl (fun (n : Nat) (b : UInt8) => 10 * n + (b.toNat - 48)) n < 10 ^ (m + l.length)
  | [], n, m, _, h => h
  | b :: l, n, m, h, hn => by
    rw [List.all_cons, Bool.and_eq_true] at h
    have hb := digit_bd h.1
    rw [List.foldl_cons, List.length_cons, show m + (l.length + 1) = m + 1 + l.length by omega]
    refine fold_lt l _ (m + 1) h.2 ?_
    rw [Nat.pow_succ]
    omega
theorem valN_lt {l : List UInt8} (h : l.all digitB = true) : valN l < 10 ^ l.length := by
  have := fold_lt l 0 0 h (by decide)
  rw [Nat.zero_add] at this
  exact this
theorem valN_small {l : List UInt8} (h : l.all digitB = true) {k : Nat} (hk : l.length ≤ k) : valN l < 10 ^ k := Nat.lt_of_lt_of_le (valN_lt h) (Nat.pow_le_pow_right (by decide) hk)
theorem valN_snoc (l : List UInt8) (b : UInt8) : valN (l ++ [b]) = 10 * valN l + (b.toNat - 48) := by
  unfold valN
  rw [List.foldl_append]
  rfl
theorem all_takeD {s : ByteArray} {k : Nat} (h : k < s.size) : (s.data.toList.take (k + 1)).all digitB = ((s.data.toList.take k).all digitB && digitB s[k]) := all_take k h
theorem valN_take {s : ByteArray} {k : Nat} (h : k < s.size) : valN (s.data.toList.take (k + 1)) = 10 * valN (s.data.toList.take k) + (s[k].toNat - 48) := by
  rw [List.take_succ_eq_append_getElem (by simpa using h), valN_snoc]
  rfl
/-- The text behind a sign. -/
def magS (s : ByteArray) : ByteArray := ba (magB s.data.toList)
theorem magS_size (s : ByteArray) : (magS s).size ≤ s.size := by
  have e : (magS s).size = (magS s).data.toList.length := by simp
  have e2 : s.data.toList.length = s.size := by simp
  rw [e]
  unfold magS magB
  rw [bts_ba]
  split
  · rw [List.length_drop]; omega
  · omega
def numRet (s : ByteArray) : Int × Int := match numB s.data.toList with
  | some v => (v, 0)
  | none => (0, 1)
theorem numRet_bad {s : ByteArray} (h : shapeB s.data.toList = false ∨ (magB s.data.toList).all digitB = false) : numRet s = (0, 1) := by
  unfold numRet numB
  rcases h with h | h <;> rw [h] <;> simp
theorem numRet_ok {s : ByteArray} (h1 : shapeB s.data.toList = true) (h2 : (magB s.data.toList).all digitB = true) : numRet s = (if negB s.data.toList then -(valN (magB s.data.toList) : Int) else (valN (magB s.data.toList) : Int), 0) := by
  unfold numRet numB
  rw [h1, h2, val10_N h2]
  simp
theorem shape_of (s : ByteArray) : shapeB s.data.toList = !(decide ((magS s).size = 0) || decide (18 < (magS s).size) || (decide ((magS s).data.toList.head? = some 48) && (decide (1 < (magS s).size) || negB s.data.toList))) := by
  have e : (magS s).size = (magB s.data.toList).length := by
    have : (magS s).size = (magS s).data.toList.length := by simp
    rw [this]
    unfold magS
    rw [bts_ba]
  unfold shapeB
  rw [e]
  unfold magS
  rw [bts_ba]
theorem head_get {s : ByteArray} (h : 0 < s.size) : decide (s.data.toList.head? = some 48) = ((s[0].toNat : Int) == 48) := by
  have := get_toNat h 48
  have h48 : ((48 : UInt8).toNat : Int) = 48 := rfl
  rw [h48] at this
  rw [this, List.head?_eq_getElem?, List.getElem?_eq_getElem (by simpa using h)]
  by_cases q : s[0] = 48
  · rw [decide_eq_true q, decide_eq_true]
    rw [← q]
    rfl
  · rw [decide_eq_false q, decide_eq_false]
    intro e
    injection e with e
    exact q e
set_option maxRecDepth 100000 in
set_option maxHeartbeats 4000000 in
theorem number_any (s : ByteArray) (w : World) (hs : s.size ≤ 1000000) : Calls Tryz.prog 148 #[.string s] w fun e w' => e = .returned (.tuple #[.int .i64 (numRet s).1, .int .i64 (numRet s).2]) ∧ w = w' := by
  have h1 := fun W => Tryz.strings_CutPrefix s ⟨#[45]⟩ W
  obtain ⟨d, hd⟩ : ∃ d, d = magS s := ⟨_, rfl⟩
  obtain ⟨p, hp⟩ : ∃ p, p = negB s.data.toList := ⟨_, rfl⟩
  have H1 : Hid (∀ W, Calls Tryz.prog 126 #[.string s, .string ⟨#[45]⟩] W fun e w' => e = .returned (.tuple #[.string d, .bool p]) ∧ w' = W) := by rw [hd, hp]; exact h1
  have hds : d.size ≤ s.size := by rw [hd]; exact magS_size s
  have hsh := shape_of s
  rw [← hd, ← hp] at hsh
  have hbad := fun (h : (d.data.toList).all digitB = false) => numRet_bad (s := s) (.inr (by rw [hd] at h; unfold magS at h; rw [bts_ba] at h; exact h))
  have hok := fun (h1 : shapeB s.data.toList = true) (h : (d.data.toList).all digitB = true) => numRet_ok (s := s) h1 (by rw [hd] at h; unfold magS at h; rw [bts_ba] at h; exact h)
  have hok2 : shapeB s.data.toList = true → (d.data.toList).all digitB = true → numRet s = (if p then -(valN d.data.toList : Int) else (valN d.data.toList : Int), 0) := by
    intro h1 h2
    rw [hok h1 h2, hp, hd]
    unfold magS
    rw [bts_ba]
  clear h1 hd hp hok
  obtain ⟨r, hr⟩ : ∃ r, r = numRet s := ⟨_, rfl⟩
  rw [← hr] at hbad hok2 ⊢
  have hb0 : shapeB s.data.toList = false → r = (0, 1) := fun h => by rw [hr]; exact numRet_bad (.inl h)
  clear hr
  obtain ⟨r1, r2⟩ := r
  have HB := Lib.hid hbad
  have HO := Lib.hid hok2
  have HB0 := Lib.hid hb0
  clear hbad hok2 hb0
  by_cases c0 : d.size = 0
  · have := HB0.out (by rw [hsh, decide_eq_true c0]; rfl)
    obtain ⟨rfl, rfl⟩ : r1 = 0 ∧ r2 = 1 := by injection this with a b; exact ⟨a, b⟩
    clear hsh HB HO HB0 this
    go_enter Tryz.func148, Tryz.ntmps148
    go_wp2_with (go_at_call 126; refine (H1.out _).mono ?_; rintro e w1 ⟨rfl, rfl⟩)
    go_ret2
    exact ⟨rfl, rfl⟩
  · by_cases c1 : 18 < d.size
    · have := HB0.out (by rw [hsh, decide_eq_true c1]; simp)
      obtain ⟨rfl, rfl⟩ : r1 = 0 ∧ r2 = 1 := by injection this with a b; exact ⟨a, b⟩
      clear hsh HB HO HB0 this
      go_enter Tryz.func148, Tryz.ntmps148
      go_wp2_with (go_at_call 126; refine (H1.out _).mono ?_; rintro e w1 ⟨rfl, rfl⟩)
      go_ret2
      exact ⟨rfl, rfl⟩
    · have hpos : 0 < d.size := by omega
      have hh := head_get hpos
      rw [hh, decide_eq_false c0, decide_eq_false c1] at hsh
      have hb256 : (d[0].toNat : Int) < 256 := by have := d[0].toNat_lt; omega
      have x0 : ((d.size : Int) == 0) = false := by rw [beq_eq_false_iff_ne]; omega
      have x1 : decide ((18 : Int) < (d.size : Int)) = false := decide_eq_false (by omega)
      cases hz : ((d[0].toNat : Int) == 48) with
      | true =>
        by_cases m1 : 1 < d.size
        · have hrr := HB0.out (by rw [hsh]; simp_all)
          obtain ⟨rfl, rfl⟩ : r1 = 0 ∧ r2 = 1 := by injection hrr with a b; exact ⟨a, b⟩
          clear hsh HB HO HB0 hrr hh
          go_enter Tryz.func148, Tryz.ntmps148
          go_wp2_with (go_at_call 126; refine (H1.out _).mono ?_; rintro e w1 ⟨rfl, rfl⟩)
          go_ret2
          exact ⟨rfl, rfl⟩
        · cases p with
          | true =>
            have hrr := HB0.out (by rw [hsh]; simp_all)
            obtain ⟨rfl, rfl⟩ : r1 = 0 ∧ r2 = 1 := by injection hrr with a b; exact ⟨a, b⟩
            clear hsh HB HO HB0 hrr hh
            go_enter Tryz.func148, Tryz.ntmps148
            go_wp2_with (go_at_call 126; refine (H1.out _).mono ?_; rintro e w1 ⟨rfl, rfl⟩)
            go_ret2
            exact ⟨rfl, rfl⟩
          | false =>
            have HSh : Hid (shapeB s.data.toList = true) := by unfold Hid; rw [hsh]; simp_all
            clear hsh HB0 hh
            go_enter Tryz.func148, Tryz.ntmps148
            go_wp2_with (go_at_call 126; refine (H1.out _).mono ?_; rintro e w1 ⟨rfl, rfl⟩)
            go_loop [6, 36] (fun a i => ∃ k : Nat, k ≤ d.size ∧ i = .int .i64 k ∧ a = .int .i64 (valN (d.data.toList.take k) : Int) ∧ Hid ((d.data.toList.take k).all digitB = true)) (fun _ i => d.size - (intOf i).toNat)
            case atStart => exact ⟨0, Nat.zero_le _, rfl, rfl, by simp [Hid]⟩
            case round =>
              obtain ⟨k, hk, rfl, rfl, hT⟩ := hrel
              by_cases hlt : k < d.size
              · have hb2 : (d[k].toNat : Int) < 256 := by have := d[k].toNat_lt; omega
                have hall := all_takeD hlt
                have hbadk : digitB d[k] = false → r1 = 0 ∧ r2 = 1 := fun h => by
                  have := HB.out (all_false (k := k) (by simpa using hlt) h)
                  injection this with a b
                  exact ⟨a, b⟩
                by_cases q1 : (d[k].toNat : Int) < 48
                · obtain ⟨rfl, rfl⟩ := hbadk (by unfold digitB; rw [decide_eq_true q1]; rfl)
                  clear hall hbadk HB HO hT
                  go_wp2
                  go_ret2
                  exact ⟨rfl, rfl⟩
                · by_cases q2 : 57 < (d[k].toNat : Int)
                  · obtain ⟨rfl, rfl⟩ := hbadk (by unfold digitB; rw [decide_eq_true q2]; simp)
                    clear hall hbadk HB HO hT
                    go_wp2
                    go_ret2
                    exact ⟨rfl, rfl⟩
                  · have hdk : digitB d[k] = true := by unfold digitB; rw [decide_eq_false q1, decide_eq_false q2]; rfl
                    rw [hT.out, hdk] at hall
                    have hv := valN_take hlt
                    have hbd := valN_small (k := 17) hT.out (by rw [List.length_take]; omega)
                    obtain ⟨n, hn⟩ : ∃ n, n = valN (d.data.toList.take k) := ⟨_, rfl⟩
                    rw [← hn] at hv hbd ⊢
                    have hbd : n < 100000000000000000 := hbd
                    have HN : Hid ((10 * (n : Int)) + ((d[k].toNat : Int) - 48) = ((valN (d.data.toList.take (k + 1)) : Nat) : Int)) := by
                      unfold Hid
                      rw [hv]
                      omega
                    have HA := Lib.hid hall
                    have e1 := IntWalk.u8_in ((d[k].toNat : Int) - 48) ⟨by omega, by omega⟩
                    have e2 := IntWalk.i64_in ((d[k].toNat : Int) - 48) ⟨by omega, by omega⟩
                    have e3 := IntWalk.i64_in (10 * (n : Int)) ⟨by omega, by omega⟩
                    have e4 := IntWalk.i64_in (10 * (n : Int) + ((d[k].toNat : Int) - 48)) ⟨by omega, by omega⟩
                    clear hall hbadk HB HO hT hv hn hdk
                    go_wp2
                    go_round
                    case rel => exact ⟨k + 1, hlt, by go_num, by rw [← HN.out], HA⟩
                    case measure => simp [intOf]; omega
              · have hall := hT.out
                rw [List.take_of_length_le (by simp; omega)] at hall ⊢
                have hrr := HO.out HSh.out hall
                have hbd := valN_small (k := 18) hall (by simp; omega)
                obtain ⟨n, hn⟩ : ∃ n, n = valN d.data.toList := ⟨_, rfl⟩
                rw [← hn] at hrr hbd ⊢
                have hbd : n < 1000000000000000000 := hbd
                have e1 := IntWalk.i64_in (-(n : Int)) ⟨by omega, by omega⟩
                obtain ⟨rfl, rfl⟩ : r1 = _ ∧ r2 = 0 := by injection hrr with a b; exact ⟨a, b⟩
                clear hall HB HO hT hrr hn
                go_wp2
                go_ret2
                exact ⟨rfl, rfl⟩
      | false =>
        cases p with
        | true =>
          have HSh : Hid (shapeB s.data.toList = true) := by unfold Hid; rw [hsh]; simp_all
          clear hsh HB0 hh
          go_enter Tryz.func148, Tryz.ntmps148
          go_wp2_with (go_at_call 126; refine (H1.out _).mono ?_; rintro e w1 ⟨rfl, rfl⟩)
          go_loop [6, 36] (fun a i => ∃ k : Nat, k ≤ d.size ∧ i = .int .i64 k ∧ a = .int .i64 (valN (d.data.toList.take k) : Int) ∧ Hid ((d.data.toList.take k).all digitB = true)) (fun _ i => d.size - (intOf i).toNat)
          case atStart => exact ⟨0, Nat.zero_le _, rfl, rfl, by simp [Hid]⟩
          case round =>
            obtain ⟨k, hk, rfl, rfl, hT⟩ := hrel
            by_cases hlt : k < d.size
            · have hb2 : (d[k].toNat : Int) < 256 := by have := d[k].toNat_lt; omega
              have hall := all_takeD hlt
              have hbadk : digitB d[k] = false → r1 = 0 ∧ r2 = 1 := fun h => by
                have := HB.out (all_false (k := k) (by simpa using hlt) h)
                injection this with a b
                exact ⟨a, b⟩
              by_cases q1 : (d[k].toNat : Int) < 48
              · obtain ⟨rfl, rfl⟩ := hbadk (by unfold digitB; rw [decide_eq_true q1]; rfl)
                clear hall hbadk HB HO hT
                go_wp2
                go_ret2
                exact ⟨rfl, rfl⟩
              · by_cases q2 : 57 < (d[k].toNat : Int)
                · obtain ⟨rfl, rfl⟩ := hbadk (by unfold digitB; rw [decide_eq_true q2]; simp)
                  clear hall hbadk HB HO hT
                  go_wp2
                  go_ret2
                  exact ⟨rfl, rfl⟩
                · have hdk : digitB d[k] = true := by unfold digitB; rw [decide_eq_false q1, decide_eq_false q2]; rfl
                  rw [hT.out, hdk] at hall
                  have hv := valN_take hlt
                  have hbd := valN_small (k := 17) hT.out (by rw [List.length_take]; omega)
                  obtain ⟨n, hn⟩ : ∃ n, n = valN (d.data.toList.take k) := ⟨_, rfl⟩
                  rw [← hn] at hv hbd ⊢
                  have hbd : n < 100000000000000000 := hbd
                  have HN : Hid ((10 * (n : Int)) + ((d[k].toNat : Int) - 48) = ((valN (d.data.toList.take (k + 1)) : Nat) : Int)) := by
                    unfold Hid
                    rw [hv]
                    omega
                  have HA := Lib.hid hall
                  have e1 := IntWalk.u8_in ((d[k].toNat : Int) - 48) ⟨by omega, by omega⟩
                  have e2 := IntWalk.i64_in ((d[k].toNat : Int) - 48) ⟨by omega, by omega⟩
                  have e3 := IntWalk.i64_in (10 * (n : Int)) ⟨by omega, by omega⟩
                  have e4 := IntWalk.i64_in (10 * (n : Int) + ((d[k].toNat : Int) - 48)) ⟨by omega, by omega⟩
                  clear hall hbadk HB HO hT hv hn hdk
                  go_wp2
                  go_round
                  case rel => exact ⟨k + 1, hlt, by go_num, by rw [← HN.out], HA⟩
                  case measure => simp [intOf]; omega
            · have hall := hT.out
              rw [List.take_of_length_le (by simp; omega)] at hall ⊢
              have hrr := HO.out HSh.out hall
              have hbd := valN_small (k := 18) hall (by simp; omega)
              obtain ⟨n, hn⟩ : ∃ n, n = valN d.data.toList := ⟨_, rfl⟩
              rw [← hn] at hrr hbd ⊢
              have hbd : n < 1000000000000000000 := hbd
              have e1 := IntWalk.i64_in (-(n : Int)) ⟨by omega, by omega⟩
              obtain ⟨rfl, rfl⟩ : r1 = _ ∧ r2 = 0 := by injection hrr with a b; exact ⟨a, b⟩
              clear hall HB HO hT hrr hn
              go_wp2
              go_ret2
              exact ⟨rfl, rfl⟩
        | false =>
          have HSh : Hid (shapeB s.data.toList = true) := by unfold Hid; rw [hsh]; simp_all
          clear hsh HB0 hh
          go_enter Tryz.func148, Tryz.ntmps148
          go_wp2_with (go_at_call 126; refine (H1.out _).mono ?_; rintro e w1 ⟨rfl, rfl⟩)
          go_loop [6, 36] (fun a i => ∃ k : Nat, k ≤ d.size ∧ i = .int .i64 k ∧ a = .int .i64 (valN (d.data.toList.take k) : Int) ∧ Hid ((d.data.toList.take k).all digitB = true)) (fun _ i => d.size - (intOf i).toNat)
          case atStart => exact ⟨0, Nat.zero_le _, rfl, rfl, by simp [Hid]⟩
          case round =>
            obtain ⟨k, hk, rfl, rfl, hT⟩ := hrel
            by_cases hlt : k < d.size
            · have hb2 : (d[k].toNat : Int) < 256 := by have := d[k].toNat_lt; omega
              have hall := all_takeD hlt
              have hbadk : digitB d[k] = false → r1 = 0 ∧ r2 = 1 := fun h => by
                have := HB.out (all_false (k := k) (by simpa using hlt) h)
                injection this with a b
                exact ⟨a, b⟩
              by_cases q1 : (d[k].toNat : Int) < 48
              · obtain ⟨rfl, rfl⟩ := hbadk (by unfold digitB; rw [decide_eq_true q1]; rfl)
                clear hall hbadk HB HO hT
                go_wp2
                go_ret2
                exact ⟨rfl, rfl⟩
              · by_cases q2 : 57 < (d[k].toNat : Int)
                · obtain ⟨rfl, rfl⟩ := hbadk (by unfold digitB; rw [decide_eq_true q2]; simp)
                  clear hall hbadk HB HO hT
                  go_wp2
                  go_ret2
                  exact ⟨rfl, rfl⟩
                · have hdk : digitB d[k] = true := by unfold digitB; rw [decide_eq_false q1, decide_eq_false q2]; rfl
                  rw [hT.out, hdk] at hall
                  have hv := valN_take hlt
                  have hbd := valN_small (k := 17) hT.out (by rw [List.length_take]; omega)
                  obtain ⟨n, hn⟩ : ∃ n, n = valN (d.data.toList.take k) := ⟨_, rfl⟩
                  rw [← hn] at hv hbd ⊢
                  have hbd : n < 100000000000000000 := hbd
                  have HN : Hid ((10 * (n : Int)) + ((d[k].toNat : Int) - 48) = ((valN (d.data.toList.take (k + 1)) : Nat) : Int)) := by
                    unfold Hid
                    rw [hv]
                    omega
                  have HA := Lib.hid hall
                  have e1 := IntWalk.u8_in ((d[k].toNat : Int) - 48) ⟨by omega, by omega⟩
                  have e2 := IntWalk.i64_in ((d[k].toNat : Int) - 48) ⟨by omega, by omega⟩
                  have e3 := IntWalk.i64_in (10 * (n : Int)) ⟨by omega, by omega⟩
                  have e4 := IntWalk.i64_in (10 * (n : Int) + ((d[k].toNat : Int) - 48)) ⟨by omega, by omega⟩
                  clear hall hbadk HB HO hT hv hn hdk
                  go_wp2
                  go_round
                  case rel => exact ⟨k + 1, hlt, by go_num, by rw [← HN.out], HA⟩
                  case measure => simp [intOf]; omega
            · have hall := hT.out
              rw [List.take_of_length_le (by simp; omega)] at hall ⊢
              have hrr := HO.out HSh.out hall
              have hbd := valN_small (k := 18) hall (by simp; omega)
              obtain ⟨n, hn⟩ : ∃ n, n = valN d.data.toList := ⟨_, rfl⟩
              rw [← hn] at hrr hbd ⊢
              have hbd : n < 1000000000000000000 := hbd
              have e1 := IntWalk.i64_in (-(n : Int)) ⟨by omega, by omega⟩
              obtain ⟨rfl, rfl⟩ : r1 = _ ∧ r2 = 0 := by injection hrr with a b; exact ⟨a, b⟩
              clear hall HB HO hT hrr hn
              go_wp2
              go_ret2
              exact ⟨rfl, rfl⟩
end Go.Proofs.YtpcemipfanimgaaGreatDoor
/- Contracts: the text of a link, written and read. -/
set_option linter.unusedVariables false
set_option linter.unusedSimpArgs false
namespace Go.Proofs.YtpcemipfanimgaaGreatDoor
open Go Go.RowKit Go.Sort Go.Lib Go.Shelf
/-- The table of the powers of ten is as the program's text lays it. -/
def Tab (w : World) : Prop := Lib.TabIs Tryz.prog w "internal/strconv.uint64pow10" .u64 Lib.pow10Tab
theorem Tab.only {w w' : World} (h : Tab w) (k : Only [] w w') : Tab w' := by
  unfold Tab Lib.TabIs World.var? at *
  obtain ⟨g, hg, h2⟩ := Option.bind_eq_some_iff.1 h
  rw [hg]
  simp only [Option.bind_some]
  cases q : w.heap[g]? with
  | none => rw [q] at h2; cases h2
  | some o =>
    have hlt : g < w.heap.size := (Array.getElem?_eq_some_iff.1 q).1
    rw [k.block g hlt (by simp)]
    exact h2
theorem digits_any {w : World} (n : Int) (ht : Tab w) (h0 : -9223372036854775808 ≤ n) (h1 : n ≤ 9223372036854775807) : Calls Tryz.prog 105 #[.int .i64 n] w fun e w' => e = .returned (.string (ba (Lib.itoa n))) ∧ Only [] w w' := by
  have HI := Lib.hid (Tryz.strconv_Itoa n h0 h1 w ht)
  go_enter Tryz.func105, Tryz.ntmps105
  go_wp2_with (go_at_call 136; refine HI.out.mono ?_; rintro e w1 ⟨rfl, k, os, rfl⟩)
  go_ret
  exact ⟨rfl, Only.regrown [] w (w.drawn + k) os⟩
theorem itoa_size {n : Int} (h0 : -9223372036854775808 ≤ n) (h1 : n ≤ 9223372036854775807) : (ba (Lib.itoa n)).size ≤ 21 := by
  have e : (ba (Lib.itoa n)).size = (ba (Lib.itoa n)).data.toList.length := by simp
  rw [e, bts_ba]
  exact Lib.itoa_length_le n h0 h1
theorem app_at (a s : ByteArray) : a ++ ⟨#[64]⟩ ++ s = ba (a.data.toList ++ 64 :: s.data.toList) := by
  apply bts_inj
  rw [bts_ba]
  simp
theorem link_any {w : World} (n : Int) (s : ByteArray) (ht : Tab w) (h0 : -9223372036854775808 ≤ n) (h1 : n ≤ 9223372036854775807) (hs : s.size ≤ 1000000) : Calls Tryz.prog 52 #[.int .i64 n, .string s] w fun e w' => e = .returned (.string (linkData n s)) ∧ Only [] w w' := by
  have hsz := itoa_size h0 h1
  have hz := app_at (ba (Lib.itoa n)) s
  rw [bts_ba] at hz
  unfold linkData
  rw [← hz]
  obtain ⟨d, hd⟩ : ∃ d, d = ba (Lib.itoa n) := ⟨_, rfl⟩
  have HD := Lib.hid (digits_any n ht h0 h1)
  rw [← hd] at HD hsz ⊢
  clear hd hz
  go_enter Tryz.func52, Tryz.ntmps52
  go_wp2_with (go_at_call 105; refine HD.out.mono ?_; rintro e w1 ⟨rfl, ho1⟩)
  go_ret
  exact ⟨rfl, ho1⟩
def unlinkRet (s : ByteArray) : Int × ByteArray × Int := match unlinkB s with
  | some (v, n) => (v, n, 0)
  | none => (0, ⟨#[]⟩, 6)
theorem numRet_pair (s : ByteArray) : (numRet s).2 = 0 ∧ numB s.data.toList = some (numRet s).1 ∨ (numRet s).2 = 1 ∧ (numRet s).1 = 0 ∧ numB s.data.toList = none := by
  unfold numRet
  cases numB s.data.toList with
  | none => exact .inr ⟨rfl, rfl, rfl⟩
  | some v => exact .inl ⟨rfl, rfl⟩
theorem drop_size {s : ByteArray} {k : Nat} : (ba (s.data.toList.drop k)).size ≤ s.size := by
  have e : (ba (s.data.toList.drop k)).size = (ba (s.data.toList.drop k)).data.toList.length := by simp
  have e2 : s.data.toList.length = s.size := by simp
  rw [e, bts_ba, List.length_drop]
  omega
theorem pre_size {s : ByteArray} {b : UInt8} : (ba (preOf b s.data.toList)).size ≤ s.size := by
  have e : (ba (preOf b s.data.toList)).size = (ba (preOf b s.data.toList)).data.toList.length := by simp
  have e2 : s.data.toList.length = s.size := by simp
  have := pre_le b s.data.toList
  rw [e, bts_ba]
  omega
set_option maxRecDepth 100000 in
set_option maxHeartbeats 2000000 in
theorem unlink_any (s : ByteArray) (w : World) (hs : s.size ≤ 1000000) : Calls Tryz.prog 110 #[.string s] w fun e w' => e = .returned (.tuple #[.int .i64 (unlinkRet s).1, .string (unlinkRet s).2.1, .int .i64 (unlinkRet s).2.2]) ∧ Only [] w w' := by
  have HC := Lib.hid (cut_any s 64 w (by unfold maxLen; omega))
  unfold cutAt at HC
  obtain ⟨r, hr⟩ : ∃ r, r = unlinkRet s := ⟨_, rfl⟩
  rw [← hr]
  unfold unlinkRet unlinkB at hr
  by_cases hm : (64 : UInt8) ∈ s.data.toList
  · rw [if_pos hm] at HC hr
    have d1 := pre_size (s := s) (b := 64)
    have d2 := drop_size (s := s) (k := (preOf 64 s.data.toList).length + 1)
    obtain ⟨x, hx⟩ : ∃ x, x = ba (preOf 64 s.data.toList) := ⟨_, rfl⟩
    obtain ⟨y, hy⟩ : ∃ y, y = ba (s.data.toList.drop ((preOf 64 s.data.toList).length + 1)) := ⟨_, rfl⟩
    have hxl : preOf 64 s.data.toList = x.data.toList := by rw [hx, bts_ba]
    rw [← hx] at HC d1
    rw [← hy] at HC hr d2
    rw [hxl] at hr
    have HN := Lib.hid (fun W => number_any x W (by omega))
    have hnp := numRet_pair x
    obtain ⟨n, hn⟩ : ∃ n, n = numRet x := ⟨_, rfl⟩
    rw [← hn] at HN hnp
    obtain ⟨n1, n2⟩ := n
    have HS := Lib.hid (fun W => stream_any y W (by unfold maxLen; omega))
    clear hx hy hxl hn hm
    rcases hnp with ⟨e1, e2⟩ | ⟨e1, e3, e2⟩
    · simp only [] at e1 e2 HN
      subst e1
      rw [e2] at hr
      simp only [] at hr
      by_cases h0 : 0 ≤ n1
      · cases hy : nameOk y with
        | true =>
          rw [if_pos ⟨h0, hy⟩] at hr
          subst hr
          rw [hy] at HS
          clear e2 hy
          go_enter Tryz.func110, Tryz.ntmps110
          go_wp2_with (first
            | (go_at_call 123; refine HC.out.mono ?_; rintro e w1 ⟨rfl, ho1⟩)
            | (go_at_call 148; refine (HN.out _).mono ?_; rintro e w2 ⟨rfl, rfl⟩)
            | (go_at_call 69; refine (HS.out _).mono ?_; rintro e w2 ⟨rfl, rfl⟩)
            | (go_at_call 124; refine (strClone_any _ _ (by omega)).mono ?_; rintro e w3 ⟨rfl, ho3⟩))
          go_ret3
          exact ⟨rfl, ho1.trans ho3⟩
        | false =>
          rw [if_neg (by rw [hy]; simp)] at hr
          subst hr
          rw [hy] at HS
          clear e2 hy
          go_enter Tryz.func110, Tryz.ntmps110
          go_wp2_with (first
            | (go_at_call 123; refine HC.out.mono ?_; rintro e w1 ⟨rfl, ho1⟩)
            | (go_at_call 148; refine (HN.out _).mono ?_; rintro e w2 ⟨rfl, rfl⟩)
            | (go_at_call 69; refine (HS.out _).mono ?_; rintro e w2 ⟨rfl, rfl⟩)
            | (go_at_call 124; refine (strClone_any _ _ (by omega)).mono ?_; rintro e w3 ⟨rfl, ho3⟩))
          go_ret3
          exact ⟨rfl, ho1⟩
      · rw [if_neg (fun q => h0 q.1)] at hr
        subst hr
        clear e2
        go_enter Tryz.func110, Tryz.ntmps110
        go_wp2_with (first
          | (go_at_call 123; refine HC.out.mono ?_; rintro e w1 ⟨rfl, ho1⟩)
          | (go_at_call 148; refine (HN.out _).mono ?_; rintro e w2 ⟨rfl, rfl⟩)
          | (go_at_call 69; refine (HS.out _).mono ?_; rintro e w2 ⟨rfl, rfl⟩)
          | (go_at_call 124; refine (strClone_any _ _ (by omega)).mono ?_; rintro e w3 ⟨rfl, ho3⟩))
        go_ret3
        exact ⟨rfl, ho1⟩
    · simp only [] at e1 e2 e3 HN
      subst e1 e3
      rw [e2] at hr
      simp only [] at hr
      subst hr
      clear e2
      go_enter Tryz.func110, Tryz.ntmps110
      go_wp2_with (first
        | (go_at_call 123; refine HC.out.mono ?_; rintro e w1 ⟨rfl, ho1⟩)
        | (go_at_call 148; refine (HN.out _).mono ?_; rintro e w2 ⟨rfl, rfl⟩)
        | (go_at_call 69; refine (HS.out _).mono ?_; rintro e w2 ⟨rfl, rfl⟩)
        | (go_at_call 124; refine (strClone_any _ _ (by omega)).mono ?_; rintro e w3 ⟨rfl, ho3⟩))
      go_ret3
      exact ⟨rfl, ho1⟩
  · rw [if_neg hm] at HC hr
    simp only [] at hr HC
    subst hr
    have HN := Lib.hid (fun W => number_any s W hs)
    have HS := Lib.hid (fun W => stream_any ⟨#[]⟩ W (Nat.zero_le _))
    obtain ⟨n, hn⟩ : ∃ n, n = numRet s := ⟨_, rfl⟩
    rw [← hn] at HN
    obtain ⟨n1, n2⟩ := n
    clear hm hn
    go_enter Tryz.func110, Tryz.ntmps110
    go_wp2_with (first
      | (go_at_call 123; refine HC.out.mono ?_; rintro e w1 ⟨rfl, ho1⟩)
      | (go_at_call 148; refine (HN.out _).mono ?_; rintro e w2 ⟨rfl, rfl⟩)
      | (go_at_call 69; refine (HS.out _).mono ?_; rintro e w2 ⟨rfl, rfl⟩)
      | (go_at_call 124; refine (strClone_any _ _ (by omega)).mono ?_; rintro e w3 ⟨rfl, ho3⟩))
    go_ret3
    exact ⟨rfl, ho1⟩
end Go.Proofs.YtpcemipfanimgaaGreatDoor
/- Contracts: the document's digits. -/
set_option linter.unusedVariables false
set_option linter.unusedSimpArgs false
namespace Go.Proofs.YtpcemipfanimgaaGreatDoor
open Go Go.RowKit Go.Sort Go.Lib Go.Shelf
theorem dec_step {n v : Nat} {s : ByteArray} (h : Lib.decDigits n = Lib.decDigits v ++ s.data.toList) : (v / 10 ≠ 0 → Lib.decDigits n = Lib.decDigits (v / 10) ++ (ba (UInt8.ofNat (48 + v % 10) :: s.data.toList)).data.toList) ∧ (v / 10 = 0 → Lib.decDigits n = (ba (UInt8.ofNat (48 + v % 10) :: s.data.toList)).data.toList) := by
  rw [bts_ba]
  constructor
  · intro h0
    rw [h, dec_big (by omega)]
    simp
  · intro h0
    have : v % 10 = v := by omega
    rw [h, dec_small (by omega), this]
    rfl
set_option maxRecDepth 100000 in
set_option maxHeartbeats 1000000 in
theorem r1digits_any {w : World} (n : Nat) (hn : n ≤ 1000000000) : Calls Tryz.prog 54 #[.int .i64 n] w fun e w' => e = .returned (.string (ba (Lib.itoa n))) ∧ Only [] w w' := by
  rw [Lib.itoa_nonneg]
  go_enter Tryz.func54, Tryz.ntmps54
  go_wp2
  go_loopw [0, 3] (fun a b wr => ∃ (v : Nat) (s : ByteArray), a = .int .i64 v ∧ b = .string s ∧ v ≤ n ∧ s.size ≤ n - v ∧ Hid (Lib.decDigits n = Lib.decDigits v ++ s.data.toList) ∧ Only [] w wr) (fun a _ _ => (intOf a).toNat)
  case atStart => exact ⟨n, ⟨#[]⟩, rfl, rfl, Nat.le_refl _, Nat.zero_le _, by simp [Hid], Only.refl _ _⟩
  case round =>
    obtain ⟨v, s, rfl, rfl, hv, hsz, hT, hO⟩ := hrel
    have hst := dec_step hT.out
    have e1 := IntWalk.i64_in ((48 : Int) + ((v : Int) % 10)) ⟨by omega, by omega⟩
    have e2 := IntWalk.u8_in ((48 : Int) + ((v : Int) % 10)) ⟨by omega, by omega⟩
    have HS := Lib.hid hst
    clear hst hT
    have hcv := run_convert_bytes_back (P := Tryz.prog) (wr.alloc (.cells #[.int .u8 (48 + (v : Int) % 10)] 5)) 148 9 5 ⟨wr.heap.size, 0, none⟩ 1 [UInt8.ofNat (48 + v % 10)] Tryz.underlying148 Tryz.underlying5 Tryz.underlying9 (fun j hj => by
      have hj0 : j = 0 := by simpa using hj
      subst hj0
      have hc := Blk.cell (Blk.new wr 5 #[.int .u8 (48 + (v : Int) % 10)]) 0
      rw [show (⟨wr.heap.size, 0, none⟩ : Addr).add 0 = ⟨wr.heap.size, 0, none⟩ by simp [Addr.add], hc]
      have := dg_nat (Nat.mod_lt v (by decide : 0 < 10))
      simp only [List.getElem_cons_zero, this]
      simp)
    rw [show ([UInt8.ofNat (48 + v % 10)] : List UInt8).length = 1 from rfl] at hcv
    have HC := Lib.hid hcv
    obtain ⟨x, hx⟩ : ∃ x : ByteArray, x = ⟨#[UInt8.ofNat (48 + v % 10)]⟩ := ⟨_, rfl⟩
    have hxs : x.size = 1 := by rw [hx]; rfl
    have hap : Hid (x ++ s = ba (UInt8.ofNat (48 + v % 10) :: s.data.toList)) := by
      unfold Hid
      apply bts_inj
      rw [bts_ba, hx]
      simp
    have HX : Hid (Sem.run Tryz.prog (convert 148 9 (.slice (some ⟨wr.heap.size, 0, none⟩) 1 1)) (wr.alloc (.cells #[.int .u8 (48 + (v : Int) % 10)] 5)) = .ok (.string x) (wr.alloc (.cells #[.int .u8 (48 + (v : Int) % 10)] 5))) := by
      rw [hx]
      exact hcv
    clear hcv HC hx
    by_cases h0 : v / 10 = 0
    · have b0 : (((v : Int) / 10) == 0) = true := by rw [beq_iff_eq]; omega
      go_wp2
      rw [HX.out]
      go_wp2
      go_ret
      refine ⟨?_, hO.alloc _⟩
      rw [hap.out, HS.out.2 h0, ba_bts]
      rfl
    · have b0 : (((v : Int) / 10) == 0) = false := by rw [beq_eq_false_iff_ne]; omega
      go_wp2
      rw [HX.out]
      go_wp2
      refine ⟨⟨v / 10, x ++ s, by simp, rfl, by omega, ?hsz, ?hd, hO.alloc _⟩, by simp [intOf]; omega⟩
      case hsz => rw [ByteArray.size_append, hxs]; omega
      case hd => unfold Hid; rw [hap.out]; exact HS.out.1 h0
end Go.Proofs.YtpcemipfanimgaaGreatDoor

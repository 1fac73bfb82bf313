/- ModelExpects: the plain law and the walk. -/
import Derived.Test.YtefkhkbkengniaaMx1
set_option linter.unusedVariables false
set_option linter.unusedSimpArgs false
namespace Go.Proofs.Ytefkhkbkengniaa
open Go.RowKit Go.Sort
section
variable {P : Program} {C : World → Prop} {Q : Exit → Act → World → Prop} {l : List Oper} {H A T2 : List Nat} {r : List (List Nat × List Nat)} {K : Act → World → Prop} {a : Act} {w : World}
theorem stages_nil (h : wpT1 P l.toArray C Q (opsAt l A) (wpStages P l C Q K r) a w) : wpStages P l C Q K (([], A) :: r) a w := wpQuiet_nil (P := P) (ops := l.toArray) (C := C) h
theorem stages_next (h : wpQuiet P l.toArray C (fun a' => wpT1 P l.toArray C Q (opsAt l A) (wpStages P l C Q K r) a' w) (opsAt l H) a) : wpT1 P l.toArray C Q (opsAt l []) (wpStages P l C Q K ((H, A) :: r)) a w := h
theorem stages_end (h : wpList P l.toArray Q (opsAt l T2) a w) : wpT1 P l.toArray C Q (opsAt l []) (wpStages P l C Q (fun a w => wpList P l.toArray Q (opsAt l T2) a w) []) a w := h
end
theorem firstOf_none {all : List StoredR} {id : Int} : ∀ (ps : List Int) (k : Int), (∀ p ∈ ps, idAt all p ≠ id) → firstOf all id ps k = -1
  | [], _, _ => rfl
  | p :: ps, k, h => by
    simp only [firstOf]
    rw [if_neg (h p (by simp)), firstOf_none ps (k + 1) (fun q hq => h q (by simp [hq]))]
theorem put_do {s : MS} {n : ByteArray} {ex id : Int} (hi : s.Inv) (hc : (putC n ex id).check = 0) (hno : ∀ i (h : i < s.all.length), ¬ (s.all[i].stream = n ∧ s.all[i].ev.id = id)) :
    ((s.find n).deleted = true → (s.do (putC n ex id)).1 = ⟨23, 0, 0, false⟩ ∧ (s.do (putC n ex id)).2.all = s.all) ∧
    ((s.find n).deleted = false → expected ex (s.find n).places.length = false → (s.do (putC n ex id)).1 = ⟨22, (s.find n).places.length - 1, 0, false⟩ ∧ (s.do (putC n ex id)).2.all = s.all ∧ ((s.do (putC n ex id)).2.find n).places = (s.find n).places) ∧
    ((s.find n).deleted = false → expected ex (s.find n).places.length = true → (s.do (putC n ex id)).1 = ⟨0, (s.find n).places.length, s.all.length, false⟩ ∧ (s.do (putC n ex id)).2.all.length = s.all.length + 1 ∧ ((s.do (putC n ex id)).2.find n).places.length = (s.find n).places.length + 1) := by
  have h1 : (putC n ex id).kind = 1 := rfl
  have hst : (putC n ex id).stream = n := rfl
  have hfirst : ∀ x : StreamR, x.places = (s.find n).places → (s.tick 0).first x id = -1 := fun x hx => by
    unfold MS.first
    refine firstOf_none _ _ fun p hp => ?_
    rw [hx] at hp
    obtain ⟨k, hk, rfl⟩ := List.mem_iff_getElem.1 hp
    obtain ⟨q, hq, e1, e2, e3⟩ := hi.plc n k hk
    rw [e1]
    show idAt s.all q ≠ id
    rw [idAt_nat hq]
    exact fun e => hno q hq ⟨e2, e⟩
  have hact : ∀ x : StreamR, x.places = (s.find n).places → (s.tick 0).act (putC n ex id) x = if expected ex x.places.length then (s.tick 0).append (putC n ex id) x else (wrong x, x, s.tick 0) := fun x hx => by
    unfold MS.act
    dsimp only
    rw [if_neg (by rw [h1]; decide), if_neg (by rw [h1]; decide)]
    have e1 : (s.tick 0).first x (((putC n ex id).events.head?).map (·.id) |>.getD 0) = -1 := hfirst x hx
    rw [e1, if_neg (by decide)]
    rfl
  have hdo : s.do (putC n ex id) = if (s.find n).deleted then (⟨23, 0, 0, false⟩, s.tick 0) else
      let r := (s.tick 0).act (putC n ex id) { s.find n with floor := (s.tick 0).floorOf (s.find n) }
      (r.1, r.2.2.keep n r.2.1) := by
    conv => lhs; unfold MS.do
    rw [if_neg (by rw [hc]; decide)]
    dsimp only
    rw [if_neg (by rw [h1]; decide)]
    rfl
  rw [hdo]
  refine ⟨fun hd => by rw [if_pos hd]; exact ⟨rfl, rfl⟩, fun hd he => ?_, fun hd he => ?_⟩
  · rw [if_neg (by rw [hd]; decide)]
    dsimp only
    rw [hact ⟨(s.find n).places, (s.find n).mt, (s.tick 0).floorOf (s.find n), (s.find n).deleted⟩ rfl]
    dsimp only
    rw [if_neg (by rw [he]; decide)]
    refine ⟨rfl, rfl, ?_⟩
    unfold MS.keep
    rw [find_put, if_pos rfl]
  · rw [if_neg (by rw [hd]; decide)]
    dsimp only
    rw [hact ⟨(s.find n).places, (s.find n).mt, (s.tick 0).floorOf (s.find n), (s.find n).deleted⟩ rfl]
    dsimp only
    rw [if_pos he]
    unfold MS.append
    refine ⟨?_, ?_, ?_⟩
    · show (⟨0, ((s.find n).places.length : Int), (s.all.length : Int) + 1 - 1, false⟩ : Ans) = _
      simp
    · show (s.all ++ storedOf _ _ _ _ _).length = _
      rw [List.length_append, storedOf_len]
      rfl
    · unfold MS.keep
      rw [find_put, if_pos rfl]
      show ((s.find n).places ++ rangeFrom 1 _).length = _
      rw [List.length_append, rangeFrom_len]
theorem put_bad {s : MS} {n : ByteArray} {ex id : Int} (hc : (putC n ex id).check ≠ 0) : (s.do (putC n ex id)).1 = ⟨(putC n ex id).check, 0, 0, false⟩ ∧ (s.do (putC n ex id)).2 = s := by
  unfold MS.do
  rw [if_pos hc]
  exact ⟨rfl, rfl⟩
theorem fldAns' (W : World) (a b c d : Value) : Sem.run Try.prog (Instr.field 29 (.agg #[a, b, c, d]) 0) W = .ok a W := by kernel_rfl
set_option maxRecDepth 100000 in
set_option maxHeartbeats 1000000 in
theorem expects_go (w : World) (v1 : Value) (l : List CmdV) (n : ByteArray) (ex id : Int) (h1 : CmdsAt w w v1 l) (hn : n.size ≤ maxLen) (hex : (Lit.int .i64 ex).wf = true) :
    Calls Try.prog 4 #[v1, .string n, .int .i64 ex, .int .i64 id] w fun e w' => e = .returned (.bool true) ∧ Only [] w w' := by
  obtain ⟨A, cap, rfl, hnc, hcm, hel⟩ := h1.cells
  have hn' := hn
  unfold maxLen at hcm hn
  have HL1 := Lib.hid (fun (W : World) (hw : Only [] w W) => show Calls Try.prog 10 #[.int .i64 25, .slice A l.length cap] W fun e w' => RetB e (fun b => b = true → l.length ≤ 25) ∧ Only [] W w' from light_any (h1.keep0 hw) 25 (by omega))
  clear hel
  by_cases hn60 : n.size > 60
  · go_enter Try.func4, Try.ntmps4
    go_wp2_with fail
    refine (HL1.out _ (Only.refl _ _)).mono ?_
    rintro e w1 ⟨⟨b1, rfl, hl1⟩, ho1⟩
    clear hl1
    cases b1
    · go_wp2_with (go_at_call 11; refine (alive_any _).mono ?_; rintro e w3 ⟨rfl, ho3⟩)
      go_ret
      exact ⟨rfl, ho1.trans ho3⟩
    · go_wp2_with (go_at_call 11; refine (alive_any _).mono ?_; rintro e w3 ⟨rfl, ho3⟩)
      go_ret
      exact ⟨rfl, ho1.trans ho3⟩
  · by_cases hid : id < 1
    · go_enter Try.func4, Try.ntmps4
      go_wp2_with fail
      refine (HL1.out _ (Only.refl _ _)).mono ?_
      rintro e w1 ⟨⟨b1, rfl, hl1⟩, ho1⟩
      clear hl1
      cases b1
      · go_wp2_with (go_at_call 11; refine (alive_any _).mono ?_; rintro e w3 ⟨rfl, ho3⟩)
        go_ret
        exact ⟨rfl, ho1.trans ho3⟩
      · go_wp2_with (go_at_call 11; refine (alive_any _).mono ?_; rintro e w3 ⟨rfl, ho3⟩)
        go_ret
        exact ⟨rfl, ho1.trans ho3⟩
    · have hid1 : 1 ≤ id := by omega
      have hsf := stF
      have hfa := fldAns'
      have hrk := fun (W : World) (g : Nat) (hb : Blk W g 43 #[.int .i64 id, .string ⟨#[116]⟩, .string ⟨#[]⟩, .float .f64 0]) => r7put_any (ex := ex) hn' hid1 hb
      have hpok := putC_ok hn' ex id
      obtain ⟨S1, hS1⟩ : ∃ S1, S1 = runS MS.new l := ⟨_, rfl⟩
      have HS1 := Lib.hid hS1
      clear hS1
      by_cases hc : (putC n ex id).check = 0
      · rw [hc] at hrk
        have HRK := Lib.hid hrk
        have HC := Lib.hid hc
        clear hrk hc
        go_enter Try.func4, Try.ntmps4
        go_wp2_with fail
        refine (HL1.out _ (Only.refl _ _)).mono ?_
        rintro e w1 ⟨⟨b1, rfl, hl1⟩, ho1⟩
        cases b1
        · go_wp2_with (go_at_call 11; refine (alive_any _).mono ?_; rintro e w3 ⟨rfl, ho3⟩)
          go_ret
          exact ⟨rfl, ho1.trans ho3⟩
        have hl25 : l.length ≤ 25 := hl1 rfl
        clear hl1
        go_wp2_with (first
          | (go_at_call 12; refine (has_newS w _ ho1 [] (by simp)).mono ?_; rintro e w4 ⟨rfl, hh4, ho4⟩)
          | (go_at_call 16; refine (run_any hh4 ((h1.keep0 ho1).keep0 ho4) (by omega)).mono ?_; rintro e w5 ⟨rfl, hh5, hk5⟩)
          | (go_at_call 17; refine (lput_any _ _ _ _ _ _).mono ?_; rintro e w6 ⟨rfl, ho6⟩
             rw [← HS1.out] at hh5
             have hh6 := (((hh5.boxE (.cells #[.int .i64 id, .string ⟨#[116]⟩, .string ⟨#[]⟩, .float .f64 0] 43)).keep ho6).boxR (.cells #[.int .i64 1, .int .i64 0, .string n, .int .i64 ex, .slice (some ⟨w5.heap.size, 0, none⟩) 1 1, .int .i64 0, .int .i64 0, .int .i64 0] 35))
             have hE6 := ((Only.refl [] w6).alloc (.cells #[.int .i64 1, .int .i64 0, .string n, .int .i64 ex, .slice (some ⟨w5.heap.size, 0, none⟩) 1 1, .int .i64 0, .int .i64 0, .int .i64 0] 35)).blk (ho6.blk (Blk.new w5 43 #[.int .i64 id, .string ⟨#[116]⟩, .string ⟨#[]⟩, .float .f64 0]) (by simp)) (by simp))
          | (go_at_call 18; refine (HRK.out _ _ hE6).mono ?_; rintro e w7 ⟨rfl, ho7⟩))
        have hev := has_every (hh6.keep ho7) (by omega)
        have hBx := ho7.blk (Blk.new w6 35 #[.int .i64 1, .int .i64 0, .string n, .int .i64 ex, .slice (some ⟨w5.heap.size, 0, none⟩) 1 1, .int .i64 0, .int .i64 0, .int .i64 0]) (by simp)
        have hEx := ho7.blk hE6 (by simp)
        have h7 := hh6.keep ho7
        refine hev.mono ?_
        rintro e w8 ⟨v8, rfl, hown8, ho8⟩
        have h8 := h7.keep ho8
        have hB8 := ho8.blk hBx (by simp)
        have hE8 := ho8.blk hEx (by simp)
        obtain ⟨A8, cap8, rfl, hn8, hc8, hel8⟩ := (Slc.of_own hown8).1.openE StoredR.cells (fun _ => rfl)
        unfold maxLen at hc8
        have hal : S1.all.length ≤ 1000000 := by have := hh5.ok.all; omega
        clear hev hown8 h7 hBx hEx
        go_wp2
        go_loopw [12] (fun i wr => ∃ k : Nat, k ≤ S1.all.length ∧ i = .int .i64 k ∧ Hid (∀ i (h : i < S1.all.length), i < k → ¬ (S1.all[i].stream = n ∧ S1.all[i].ev.id = id)) ∧ Only [] w8 wr) (fun i _ => S1.all.length - (intOf i).toNat)
        case atStart => exact ⟨0, Nat.zero_le _, rfl, fun i h q => absurd q (Nat.not_lt_zero _), Only.refl _ _⟩
        case round =>
          obtain ⟨k, hk, rfl, hT, hO⟩ := hrel
          by_cases hlt : k < S1.all.length
          · obtain ⟨b, off, rfl, hb, hcc⟩ := hel8 k hlt
            obtain ⟨x, hx⟩ : ∃ x, x = S1.all[k] := ⟨_, rfl⟩
            have hnext : ¬ (x.stream = n ∧ x.ev.id = id) → ∀ i (h : i < S1.all.length), i < k + 1 → ¬ (S1.all[i].stream = n ∧ S1.all[i].ev.id = id) := fun hn' i h q => by
              by_cases e : i = k
              · subst e
                rw [← hx]
                exact hn'
              · exact hT.out i h (by omega)
            rw [← hx] at hcc
            have c0 : wr.cell? ⟨b, off + k * 8, none⟩ = some (.int .i64 x.ev.id) := (hO.cell hb (by simp)).trans (hcc 0 (by omega))
            have c4 : wr.cell? ⟨b, off + k * 8 + 4, none⟩ = some (.string x.stream) := (hO.cell hb (by simp)).trans (hcc 4 (by omega))
            have HN := Lib.hid hnext
            clear hcc hel8 hx hnext hT
            by_cases hs : x.stream.toList = n.toList
            · have hsb : (x.stream.toList == n.toList) = true := by rw [beq_iff_eq]; exact hs
              by_cases hi : x.ev.id = id
              · clear hs
                go_wp2_with (go_at_call 11; refine (alive_any _).mono ?_; rintro e w9 ⟨rfl, ho9⟩)
                go_ret
                exact ⟨rfl, (h8.only.trans hO).trans ho9⟩
              · have hib : (x.ev.id == id) = false := by rw [beq_eq_false_iff_ne]; exact hi
                have HN2 := Lib.hid (HN.out (fun q => hi q.2))
                clear hs hi
                go_wp2
                exact ⟨⟨k + 1, hlt, by simp, HN2, hO⟩, by simp [intOf]; omega⟩
            · have hsb : (x.stream.toList == n.toList) = false := by rw [beq_eq_false_iff_ne]; exact hs
              have HN2 := Lib.hid (HN.out (fun q => hs (by rw [q.1])))
              clear hs
              go_wp2
              exact ⟨⟨k + 1, hlt, by simp, HN2, hO⟩, by simp [intOf]; omega⟩
          · have hput := put_do h8.inv HC.out (fun i h => hT.out i h (by omega))
            have hr := h8.keep hO
            have hBr := hO.blk hB8 (by simp)
            have hEr := hO.blk hE8 (by simp)
            have hbr := fun i => hBr.cell i
            have hcn := has_count hr n
            have hln := fun (W : World) (hW : Only [] wr W) => has_len (hr.keep hW)
            have hdl := fun (W : World) (hW : Only [] wr W) => has_deleted (hr.keep hW) n
            have hdo := fun (W : World) (hW : Only [] wr W) => has_do (c := putC n ex id) (hr.keep hW) (by omega) hpok (ev_in (e := ⟨id, ⟨#[116]⟩, ⟨#[]⟩, 0⟩) (hW.blk hEr (by simp)) (by simp))
            have hl9 := fun (W : World) (N : Nat) (hh : HasS w W [w6.heap.size] [w5.heap.size] (w1.heap.size + 1) w1.heap.size (S1.do (putC n ex id)).2 N) => has_len hh
            have hc9 := fun (W : World) (N : Nat) (hh : HasS w W [w6.heap.size] [w5.heap.size] (w1.heap.size + 1) w1.heap.size (S1.do (putC n ex id)).2 N) => has_count hh n
            have hexr : ex = -2 ∨ ex = -1 ∨ ex = -4 ∨ 0 ≤ ex := by
              have q := HC.out
              rw [putC_check n ex id hid1] at q
              cases hq : expects ex
              · rw [hq] at q
                cases nameOk n <;> simp at q
              · simp [expects, within] at hq
                omega
            obtain ⟨cn, hcnn⟩ : ∃ cn, cn = (S1.find n).places.length := ⟨_, rfl⟩
            obtain ⟨ln, hlnn⟩ : ∃ ln, ln = S1.all.length := ⟨_, rfl⟩
            have hcb : cn ≤ 1000000 := by have := (h8.ok.xok n).few; omega
            rw [← hcnn] at hput hcn
            rw [← hlnn] at hput hln
            have hlt2 := hlt
            clear hel8 hT hO hB8 hE8 hEr
            obtain ⟨S2, hS2⟩ : ∃ S2, S2 = (S1.do (putC n ex id)).2 := ⟨_, rfl⟩
            rw [← hS2] at hput hdo hl9 hc9
            clear hS2
            cases hd : (S1.find n).deleted with
            | true =>
              rw [hd] at hdl
              obtain ⟨r1, r2⟩ := hput.1 hd
              rw [r1] at hdo
              rw [r2, ← hlnn] at hl9
              unfold Ans.val at hdo
              have HD := Lib.hid hdo
              have HL9 := Lib.hid hl9
              have HCn := Lib.hid hcn
              have HLn := Lib.hid hln
              have HDl := Lib.hid hdl
              clear hdo hl9 hc9 hcn hln hdl hput r1 r2 hd hlnn hlt2 hcnn
              rcases hexr with rfl | rfl | rfl | hge
              · go_wp2_with (first
                  | (go_at_call 20; refine HCn.out.mono ?_; rintro e w10 ⟨rfl, ho10⟩)
                  | (go_at_call 14; first | (refine (HLn.out _ ho10).mono ?_; rintro e w11 ⟨rfl, rfl⟩; clear HLn) | (refine (HL9.out _ _ h14).mono ?_; rintro e w11 ⟨rfl, rfl⟩))
                  | (go_at_call 15; refine (HDl.out _ ho10).mono ?_; rintro e w12 ⟨rfl, ho12⟩
                     have g0 := fun i => ((ho10.trans ho12).blk hBr (by simp)).cell i)
                  | (go_at_call 13; refine (HD.out _ (ho10.trans ho12)).mono ?_; rintro e w13 ⟨rfl, h13, hk13⟩)
                  | (go_at_call 11; refine (alive_any _).mono ?_; rintro e w14 ⟨rfl, ho14⟩
                     have h14 := (h13.keep ((Only.refl [] w13).alloc _)).keep ho14
                     have g1 := fun i => (ho14.blk (Blk.new w13 29 _) (by simp)).cell i))
                go_ret
                exact ⟨rfl, h14.only⟩
              · by_cases hz : cn = 0
                · subst hz
                  go_wp2_with (first
                    | (go_at_call 20; refine HCn.out.mono ?_; rintro e w10 ⟨rfl, ho10⟩)
                    | (go_at_call 14; first | (refine (HLn.out _ ho10).mono ?_; rintro e w11 ⟨rfl, rfl⟩; clear HLn) | (refine (HL9.out _ _ h14).mono ?_; rintro e w11 ⟨rfl, rfl⟩))
                    | (go_at_call 15; refine (HDl.out _ ho10).mono ?_; rintro e w12 ⟨rfl, ho12⟩
                       have g0 := fun i => ((ho10.trans ho12).blk hBr (by simp)).cell i)
                    | (go_at_call 13; refine (HD.out _ (ho10.trans ho12)).mono ?_; rintro e w13 ⟨rfl, h13, hk13⟩)
                    | (go_at_call 11; refine (alive_any _).mono ?_; rintro e w14 ⟨rfl, ho14⟩
                       have h14 := (h13.keep ((Only.refl [] w13).alloc _)).keep ho14
                       have g1 := fun i => (ho14.blk (Blk.new w13 29 _) (by simp)).cell i))
                  go_ret
                  exact ⟨rfl, h14.only⟩
                · have hzb : ((cn : Int) == 0) = false := by rw [beq_eq_false_iff_ne]; omega
                  go_wp2_with (first
                    | (go_at_call 20; refine HCn.out.mono ?_; rintro e w10 ⟨rfl, ho10⟩)
                    | (go_at_call 14; first | (refine (HLn.out _ ho10).mono ?_; rintro e w11 ⟨rfl, rfl⟩; clear HLn) | (refine (HL9.out _ _ h14).mono ?_; rintro e w11 ⟨rfl, rfl⟩))
                    | (go_at_call 15; refine (HDl.out _ ho10).mono ?_; rintro e w12 ⟨rfl, ho12⟩
                       have g0 := fun i => ((ho10.trans ho12).blk hBr (by simp)).cell i)
                    | (go_at_call 13; refine (HD.out _ (ho10.trans ho12)).mono ?_; rintro e w13 ⟨rfl, h13, hk13⟩)
                    | (go_at_call 11; refine (alive_any _).mono ?_; rintro e w14 ⟨rfl, ho14⟩
                       have h14 := (h13.keep ((Only.refl [] w13).alloc _)).keep ho14
                       have g1 := fun i => (ho14.blk (Blk.new w13 29 _) (by simp)).cell i))
                  go_ret
                  exact ⟨rfl, h14.only⟩
              · by_cases hz : 0 < cn
                · go_wp2_with (first
                    | (go_at_call 20; refine HCn.out.mono ?_; rintro e w10 ⟨rfl, ho10⟩)
                    | (go_at_call 14; first | (refine (HLn.out _ ho10).mono ?_; rintro e w11 ⟨rfl, rfl⟩; clear HLn) | (refine (HL9.out _ _ h14).mono ?_; rintro e w11 ⟨rfl, rfl⟩))
                    | (go_at_call 15; refine (HDl.out _ ho10).mono ?_; rintro e w12 ⟨rfl, ho12⟩
                       have g0 := fun i => ((ho10.trans ho12).blk hBr (by simp)).cell i)
                    | (go_at_call 13; refine (HD.out _ (ho10.trans ho12)).mono ?_; rintro e w13 ⟨rfl, h13, hk13⟩)
                    | (go_at_call 11; refine (alive_any _).mono ?_; rintro e w14 ⟨rfl, ho14⟩
                       have h14 := (h13.keep ((Only.refl [] w13).alloc _)).keep ho14
                       have g1 := fun i => (ho14.blk (Blk.new w13 29 _) (by simp)).cell i))
                  go_ret
                  exact ⟨rfl, h14.only⟩
                · have hz0 : cn = 0 := by omega
                  subst hz0
                  go_wp2_with (first
                    | (go_at_call 20; refine HCn.out.mono ?_; rintro e w10 ⟨rfl, ho10⟩)
                    | (go_at_call 14; first | (refine (HLn.out _ ho10).mono ?_; rintro e w11 ⟨rfl, rfl⟩; clear HLn) | (refine (HL9.out _ _ h14).mono ?_; rintro e w11 ⟨rfl, rfl⟩))
                    | (go_at_call 15; refine (HDl.out _ ho10).mono ?_; rintro e w12 ⟨rfl, ho12⟩
                       have g0 := fun i => ((ho10.trans ho12).blk hBr (by simp)).cell i)
                    | (go_at_call 13; refine (HD.out _ (ho10.trans ho12)).mono ?_; rintro e w13 ⟨rfl, h13, hk13⟩)
                    | (go_at_call 11; refine (alive_any _).mono ?_; rintro e w14 ⟨rfl, ho14⟩
                       have h14 := (h13.keep ((Only.refl [] w13).alloc _)).keep ho14
                       have g1 := fun i => (ho14.blk (Blk.new w13 29 _) (by simp)).cell i))
                  go_ret
                  exact ⟨rfl, h14.only⟩
              · have x2 : (ex == -2) = false := by rw [beq_eq_false_iff_ne]; omega
                have x1 : (ex == -1) = false := by rw [beq_eq_false_iff_ne]; omega
                have x4 : (ex == -4) = false := by rw [beq_eq_false_iff_ne]; omega
                have hge2 : ex ≥ 0 := hge
                by_cases hz : ex = (cn : Int) - 1
                · have hzb : (ex == (cn : Int) - 1) = true := by rw [beq_iff_eq]; exact hz
                  clear hz
                  go_wp2_with (first
                    | (go_at_call 20; refine HCn.out.mono ?_; rintro e w10 ⟨rfl, ho10⟩)
                    | (go_at_call 14; first | (refine (HLn.out _ ho10).mono ?_; rintro e w11 ⟨rfl, rfl⟩; clear HLn) | (refine (HL9.out _ _ h14).mono ?_; rintro e w11 ⟨rfl, rfl⟩))
                    | (go_at_call 15; refine (HDl.out _ ho10).mono ?_; rintro e w12 ⟨rfl, ho12⟩
                       have g0 := fun i => ((ho10.trans ho12).blk hBr (by simp)).cell i)
                    | (go_at_call 13; refine (HD.out _ (ho10.trans ho12)).mono ?_; rintro e w13 ⟨rfl, h13, hk13⟩)
                    | (go_at_call 11; refine (alive_any _).mono ?_; rintro e w14 ⟨rfl, ho14⟩
                       have h14 := (h13.keep ((Only.refl [] w13).alloc _)).keep ho14
                       have g1 := fun i => (ho14.blk (Blk.new w13 29 _) (by simp)).cell i))
                  go_ret
                  exact ⟨rfl, h14.only⟩
                · have hzb : (ex == (cn : Int) - 1) = false := by rw [beq_eq_false_iff_ne]; exact hz
                  clear hz
                  go_wp2_with (first
                    | (go_at_call 20; refine HCn.out.mono ?_; rintro e w10 ⟨rfl, ho10⟩)
                    | (go_at_call 14; first | (refine (HLn.out _ ho10).mono ?_; rintro e w11 ⟨rfl, rfl⟩; clear HLn) | (refine (HL9.out _ _ h14).mono ?_; rintro e w11 ⟨rfl, rfl⟩))
                    | (go_at_call 15; refine (HDl.out _ ho10).mono ?_; rintro e w12 ⟨rfl, ho12⟩
                       have g0 := fun i => ((ho10.trans ho12).blk hBr (by simp)).cell i)
                    | (go_at_call 13; refine (HD.out _ (ho10.trans ho12)).mono ?_; rintro e w13 ⟨rfl, h13, hk13⟩)
                    | (go_at_call 11; refine (alive_any _).mono ?_; rintro e w14 ⟨rfl, ho14⟩
                       have h14 := (h13.keep ((Only.refl [] w13).alloc _)).keep ho14
                       have g1 := fun i => (ho14.blk (Blk.new w13 29 _) (by simp)).cell i))
                  go_ret
                  exact ⟨rfl, h14.only⟩
            | false =>
              rw [hd] at hdl
              have HDl := Lib.hid hdl
              have HCn := Lib.hid hcn
              have HLn := Lib.hid hln
              clear hdl hcn hln hlt2
              rcases hexr with rfl | rfl | rfl | hge
              · have he : expected (-2) cn = true := rfl
                obtain ⟨r1, r2, r3⟩ := hput.2.2 hd he
                rw [r1] at hdo
                rw [r2] at hl9
                rw [r3] at hc9
                unfold Ans.val at hdo
                have HD := Lib.hid hdo
                have HL9 := Lib.hid hl9
                have HC9 := Lib.hid hc9
                clear hdo hl9 hc9 hput r1 r2 r3 hd he hcnn
                have hlnb : ln ≤ 1000000 := by omega
                clear hlnn
                go_wp2_with (first
                  | (go_at_call 20; first | ((have hh := HCn); clear HCn; refine hh.out.mono ?_; clear hh; rintro e w10 ⟨rfl, ho10⟩) | (refine (HC9.out _ _ h14).mono ?_; rintro e w15 ⟨rfl, ho15⟩; have h15 := h14.keep ho15))
                  | (go_at_call 14; first | (refine (HLn.out _ ho10).mono ?_; rintro e w11 ⟨rfl, rfl⟩; clear HLn) | (refine (HL9.out _ _ h15).mono ?_; rintro e w11 ⟨rfl, rfl⟩) | (refine (HL9.out _ _ h14).mono ?_; rintro e w11 ⟨rfl, rfl⟩))
                  | (go_at_call 15; refine (HDl.out _ ho10).mono ?_; rintro e w12 ⟨rfl, ho12⟩
                     have g0 := fun i => ((ho10.trans ho12).blk hBr (by simp)).cell i)
                  | (go_at_call 13; refine (HD.out _ (ho10.trans ho12)).mono ?_; rintro e w13 ⟨rfl, h13, hk13⟩)
                  | (go_at_call 11; refine (alive_any _).mono ?_; rintro e w14 ⟨rfl, ho14⟩
                     have h14 := (h13.keep ((Only.refl [] w13).alloc _)).keep ho14
                     have g1 := fun i => (ho14.blk (Blk.new w13 29 _) (by simp)).cell i))
                go_ret
                exact ⟨rfl, h15.only⟩
              · by_cases hz : cn = 0
                · have he : expected (-1) cn = true := by rw [hz]; rfl
                  have hzb : ((cn : Int) == 0) = true := by rw [beq_iff_eq]; omega
                  clear hz
                  obtain ⟨r1, r2, r3⟩ := hput.2.2 hd he
                  rw [r1] at hdo
                  rw [r2] at hl9
                  rw [r3] at hc9
                  unfold Ans.val at hdo
                  have HD := Lib.hid hdo
                  have HL9 := Lib.hid hl9
                  have HC9 := Lib.hid hc9
                  clear hdo hl9 hc9 hput r1 r2 r3 hd he hcnn
                  have hlnb : ln ≤ 1000000 := by omega
                  clear hlnn
                  go_wp2_with (first
                    | (go_at_call 20; first | ((have hh := HCn); clear HCn; refine hh.out.mono ?_; clear hh; rintro e w10 ⟨rfl, ho10⟩) | (refine (HC9.out _ _ h14).mono ?_; rintro e w15 ⟨rfl, ho15⟩; have h15 := h14.keep ho15))
                    | (go_at_call 14; first | (refine (HLn.out _ ho10).mono ?_; rintro e w11 ⟨rfl, rfl⟩; clear HLn) | (refine (HL9.out _ _ h15).mono ?_; rintro e w11 ⟨rfl, rfl⟩) | (refine (HL9.out _ _ h14).mono ?_; rintro e w11 ⟨rfl, rfl⟩))
                    | (go_at_call 15; refine (HDl.out _ ho10).mono ?_; rintro e w12 ⟨rfl, ho12⟩
                       have g0 := fun i => ((ho10.trans ho12).blk hBr (by simp)).cell i)
                    | (go_at_call 13; refine (HD.out _ (ho10.trans ho12)).mono ?_; rintro e w13 ⟨rfl, h13, hk13⟩)
                    | (go_at_call 11; refine (alive_any _).mono ?_; rintro e w14 ⟨rfl, ho14⟩
                       have h14 := (h13.keep ((Only.refl [] w13).alloc _)).keep ho14
                       have g1 := fun i => (ho14.blk (Blk.new w13 29 _) (by simp)).cell i))
                  go_ret
                  exact ⟨rfl, h15.only⟩
                · have he : expected (-1) cn = false := by simp [expected]; omega
                  have hzb : ((cn : Int) == 0) = false := by rw [beq_eq_false_iff_ne]; omega
                  obtain ⟨r1, r2, r3⟩ := hput.2.1 hd he
                  rw [r1] at hdo
                  rw [r2, ← hlnn] at hl9
                  rw [r3, ← hcnn] at hc9
                  unfold Ans.val at hdo
                  have HD := Lib.hid hdo
                  have HL9 := Lib.hid hl9
                  have HC9 := Lib.hid hc9
                  clear hdo hl9 hc9 hput r1 r2 r3 hd he hlnn hcnn
                  go_wp2_with (first
                    | (go_at_call 20; first | ((have hh := HCn); clear HCn; refine hh.out.mono ?_; clear hh; rintro e w10 ⟨rfl, ho10⟩) | (refine (HC9.out _ _ h14).mono ?_; rintro e w15 ⟨rfl, ho15⟩; have h15 := h14.keep ho15))
                    | (go_at_call 14; first | (refine (HLn.out _ ho10).mono ?_; rintro e w11 ⟨rfl, rfl⟩; clear HLn) | (refine (HL9.out _ _ h15).mono ?_; rintro e w11 ⟨rfl, rfl⟩) | (refine (HL9.out _ _ h14).mono ?_; rintro e w11 ⟨rfl, rfl⟩))
                    | (go_at_call 15; refine (HDl.out _ ho10).mono ?_; rintro e w12 ⟨rfl, ho12⟩
                       have g0 := fun i => ((ho10.trans ho12).blk hBr (by simp)).cell i)
                    | (go_at_call 13; refine (HD.out _ (ho10.trans ho12)).mono ?_; rintro e w13 ⟨rfl, h13, hk13⟩)
                    | (go_at_call 11; refine (alive_any _).mono ?_; rintro e w14 ⟨rfl, ho14⟩
                       have h14 := (h13.keep ((Only.refl [] w13).alloc _)).keep ho14
                       have g1 := fun i => (ho14.blk (Blk.new w13 29 _) (by simp)).cell i))
                  go_ret
                  exact ⟨rfl, h15.only⟩
              · by_cases hz : 0 < cn
                · have he : expected (-4) cn = true := by simp [expected]; omega
                  obtain ⟨r1, r2, r3⟩ := hput.2.2 hd he
                  rw [r1] at hdo
                  rw [r2] at hl9
                  rw [r3] at hc9
                  unfold Ans.val at hdo
                  have HD := Lib.hid hdo
                  have HL9 := Lib.hid hl9
                  have HC9 := Lib.hid hc9
                  clear hdo hl9 hc9 hput r1 r2 r3 hd he hcnn
                  have hlnb : ln ≤ 1000000 := by omega
                  clear hlnn
                  go_wp2_with (first
                    | (go_at_call 20; first | ((have hh := HCn); clear HCn; refine hh.out.mono ?_; clear hh; rintro e w10 ⟨rfl, ho10⟩) | (refine (HC9.out _ _ h14).mono ?_; rintro e w15 ⟨rfl, ho15⟩; have h15 := h14.keep ho15))
                    | (go_at_call 14; first | (refine (HLn.out _ ho10).mono ?_; rintro e w11 ⟨rfl, rfl⟩; clear HLn) | (refine (HL9.out _ _ h15).mono ?_; rintro e w11 ⟨rfl, rfl⟩) | (refine (HL9.out _ _ h14).mono ?_; rintro e w11 ⟨rfl, rfl⟩))
                    | (go_at_call 15; refine (HDl.out _ ho10).mono ?_; rintro e w12 ⟨rfl, ho12⟩
                       have g0 := fun i => ((ho10.trans ho12).blk hBr (by simp)).cell i)
                    | (go_at_call 13; refine (HD.out _ (ho10.trans ho12)).mono ?_; rintro e w13 ⟨rfl, h13, hk13⟩)
                    | (go_at_call 11; refine (alive_any _).mono ?_; rintro e w14 ⟨rfl, ho14⟩
                       have h14 := (h13.keep ((Only.refl [] w13).alloc _)).keep ho14
                       have g1 := fun i => (ho14.blk (Blk.new w13 29 _) (by simp)).cell i))
                  go_ret
                  exact ⟨rfl, h15.only⟩
                · have he : expected (-4) cn = false := by simp [expected]; omega
                  obtain ⟨r1, r2, r3⟩ := hput.2.1 hd he
                  rw [r1] at hdo
                  rw [r2, ← hlnn] at hl9
                  rw [r3, ← hcnn] at hc9
                  unfold Ans.val at hdo
                  have HD := Lib.hid hdo
                  have HL9 := Lib.hid hl9
                  have HC9 := Lib.hid hc9
                  clear hdo hl9 hc9 hput r1 r2 r3 hd he hlnn hcnn
                  go_wp2_with (first
                    | (go_at_call 20; first | ((have hh := HCn); clear HCn; refine hh.out.mono ?_; clear hh; rintro e w10 ⟨rfl, ho10⟩) | (refine (HC9.out _ _ h14).mono ?_; rintro e w15 ⟨rfl, ho15⟩; have h15 := h14.keep ho15))
                    | (go_at_call 14; first | (refine (HLn.out _ ho10).mono ?_; rintro e w11 ⟨rfl, rfl⟩; clear HLn) | (refine (HL9.out _ _ h15).mono ?_; rintro e w11 ⟨rfl, rfl⟩) | (refine (HL9.out _ _ h14).mono ?_; rintro e w11 ⟨rfl, rfl⟩))
                    | (go_at_call 15; refine (HDl.out _ ho10).mono ?_; rintro e w12 ⟨rfl, ho12⟩
                       have g0 := fun i => ((ho10.trans ho12).blk hBr (by simp)).cell i)
                    | (go_at_call 13; refine (HD.out _ (ho10.trans ho12)).mono ?_; rintro e w13 ⟨rfl, h13, hk13⟩)
                    | (go_at_call 11; refine (alive_any _).mono ?_; rintro e w14 ⟨rfl, ho14⟩
                       have h14 := (h13.keep ((Only.refl [] w13).alloc _)).keep ho14
                       have g1 := fun i => (ho14.blk (Blk.new w13 29 _) (by simp)).cell i))
                  go_ret
                  exact ⟨rfl, h15.only⟩
              · have hxe : expected ex cn = decide (ex = (cn : Int) - 1) := by
                  unfold expected
                  rw [if_neg (by omega), if_neg (by omega), if_neg (by omega)]
                have x2 : (ex == -2) = false := by rw [beq_eq_false_iff_ne]; omega
                have x1 : (ex == -1) = false := by rw [beq_eq_false_iff_ne]; omega
                have x4 : (ex == -4) = false := by rw [beq_eq_false_iff_ne]; omega
                have hge2 : ex ≥ 0 := hge
                by_cases hz : ex = (cn : Int) - 1
                · have he : expected ex cn = true := by rw [hxe, decide_eq_true hz]
                  have hzb : (ex == (cn : Int) - 1) = true := by rw [beq_iff_eq]; exact hz
                  clear hz hxe
                  obtain ⟨r1, r2, r3⟩ := hput.2.2 hd he
                  rw [r1] at hdo
                  rw [r2] at hl9
                  rw [r3] at hc9
                  unfold Ans.val at hdo
                  have HD := Lib.hid hdo
                  have HL9 := Lib.hid hl9
                  have HC9 := Lib.hid hc9
                  clear hdo hl9 hc9 hput r1 r2 r3 hd he hcnn
                  have hlnb : ln ≤ 1000000 := by omega
                  clear hlnn
                  go_wp2_with (first
                    | (go_at_call 20; first | ((have hh := HCn); clear HCn; refine hh.out.mono ?_; clear hh; rintro e w10 ⟨rfl, ho10⟩) | (refine (HC9.out _ _ h14).mono ?_; rintro e w15 ⟨rfl, ho15⟩; have h15 := h14.keep ho15))
                    | (go_at_call 14; first | (refine (HLn.out _ ho10).mono ?_; rintro e w11 ⟨rfl, rfl⟩; clear HLn) | (refine (HL9.out _ _ h15).mono ?_; rintro e w11 ⟨rfl, rfl⟩) | (refine (HL9.out _ _ h14).mono ?_; rintro e w11 ⟨rfl, rfl⟩))
                    | (go_at_call 15; refine (HDl.out _ ho10).mono ?_; rintro e w12 ⟨rfl, ho12⟩
                       have g0 := fun i => ((ho10.trans ho12).blk hBr (by simp)).cell i)
                    | (go_at_call 13; refine (HD.out _ (ho10.trans ho12)).mono ?_; rintro e w13 ⟨rfl, h13, hk13⟩)
                    | (go_at_call 11; refine (alive_any _).mono ?_; rintro e w14 ⟨rfl, ho14⟩
                       have h14 := (h13.keep ((Only.refl [] w13).alloc _)).keep ho14
                       have g1 := fun i => (ho14.blk (Blk.new w13 29 _) (by simp)).cell i))
                  go_ret
                  exact ⟨rfl, h15.only⟩
                · have he : expected ex cn = false := by rw [hxe, decide_eq_false hz]
                  have hzb : (ex == (cn : Int) - 1) = false := by rw [beq_eq_false_iff_ne]; exact hz
                  clear hz hxe
                  obtain ⟨r1, r2, r3⟩ := hput.2.1 hd he
                  rw [r1] at hdo
                  rw [r2, ← hlnn] at hl9
                  rw [r3, ← hcnn] at hc9
                  unfold Ans.val at hdo
                  have HD := Lib.hid hdo
                  have HL9 := Lib.hid hl9
                  have HC9 := Lib.hid hc9
                  clear hdo hl9 hc9 hput r1 r2 r3 hd he hlnn hcnn
                  go_wp2_with (first
                    | (go_at_call 20; first | ((have hh := HCn); clear HCn; refine hh.out.mono ?_; clear hh; rintro e w10 ⟨rfl, ho10⟩) | (refine (HC9.out _ _ h14).mono ?_; rintro e w15 ⟨rfl, ho15⟩; have h15 := h14.keep ho15))
                    | (go_at_call 14; first | (refine (HLn.out _ ho10).mono ?_; rintro e w11 ⟨rfl, rfl⟩; clear HLn) | (refine (HL9.out _ _ h15).mono ?_; rintro e w11 ⟨rfl, rfl⟩) | (refine (HL9.out _ _ h14).mono ?_; rintro e w11 ⟨rfl, rfl⟩))
                    | (go_at_call 15; refine (HDl.out _ ho10).mono ?_; rintro e w12 ⟨rfl, ho12⟩
                       have g0 := fun i => ((ho10.trans ho12).blk hBr (by simp)).cell i)
                    | (go_at_call 13; refine (HD.out _ (ho10.trans ho12)).mono ?_; rintro e w13 ⟨rfl, h13, hk13⟩)
                    | (go_at_call 11; refine (alive_any _).mono ?_; rintro e w14 ⟨rfl, ho14⟩
                       have h14 := (h13.keep ((Only.refl [] w13).alloc _)).keep ho14
                       have g1 := fun i => (ho14.blk (Blk.new w13 29 _) (by simp)).cell i))
                  go_ret
                  exact ⟨rfl, h15.only⟩
      · have hcb : ((putC n ex id).check != 0) = true := by rw [bne_iff_ne]; exact hc
        have hpb := put_bad (s := S1) hc
        obtain ⟨ck, hck⟩ : ∃ ck, ck = (putC n ex id).check := ⟨_, rfl⟩
        rw [← hck] at hrk hcb hpb
        have HRK := Lib.hid hrk
        have HPB := Lib.hid hpb
        clear hrk hc hck hpb
        go_enter Try.func4, Try.ntmps4
        go_wp2_with fail
        refine (HL1.out _ (Only.refl _ _)).mono ?_
        rintro e w1 ⟨⟨b1, rfl, hl1⟩, ho1⟩
        cases b1
        · go_wp2_with (go_at_call 11; refine (alive_any _).mono ?_; rintro e w3 ⟨rfl, ho3⟩)
          go_ret
          exact ⟨rfl, ho1.trans ho3⟩
        have hl25 : l.length ≤ 25 := hl1 rfl
        clear hl1
        go_wp2_with (first
          | (go_at_call 12; refine (has_newS w _ ho1 [] (by simp)).mono ?_; rintro e w4 ⟨rfl, hh4, ho4⟩)
          | (go_at_call 16; refine (run_any hh4 ((h1.keep0 ho1).keep0 ho4) (by omega)).mono ?_; rintro e w5 ⟨rfl, hh5, hk5⟩)
          | (go_at_call 17; refine (lput_any _ _ _ _ _ _).mono ?_; rintro e w6 ⟨rfl, ho6⟩
             rw [← HS1.out] at hh5
             have hh6 := (((hh5.boxE (.cells #[.int .i64 id, .string ⟨#[116]⟩, .string ⟨#[]⟩, .float .f64 0] 43)).keep ho6).boxR (.cells #[.int .i64 1, .int .i64 0, .string n, .int .i64 ex, .slice (some ⟨w5.heap.size, 0, none⟩) 1 1, .int .i64 0, .int .i64 0, .int .i64 0] 35))
             have hE6 := ((Only.refl [] w6).alloc (.cells #[.int .i64 1, .int .i64 0, .string n, .int .i64 ex, .slice (some ⟨w5.heap.size, 0, none⟩) 1 1, .int .i64 0, .int .i64 0, .int .i64 0] 35)).blk (ho6.blk (Blk.new w5 43 #[.int .i64 id, .string ⟨#[116]⟩, .string ⟨#[]⟩, .float .f64 0]) (by simp)) (by simp))
          | (go_at_call 18; refine (HRK.out _ _ hE6).mono ?_; rintro e w7 ⟨rfl, ho7⟩))
        have hB7 := ho7.blk (Blk.new w6 35 #[.int .i64 1, .int .i64 0, .string n, .int .i64 ex, .slice (some ⟨w5.heap.size, 0, none⟩) 1 1, .int .i64 0, .int .i64 0, .int .i64 0]) (by simp)
        have h7 := hh6.keep ho7
        have hE7 := ho7.blk hE6 (by simp)
        have c0 := Kept.cell (a := w) (R := [w6.heap.size, w5.heap.size]) (hB7.cell 0) (.inr (by simp))
        have c1 := Kept.cell (a := w) (R := [w6.heap.size, w5.heap.size]) (hB7.cell 1) (.inr (by simp))
        have c2 := Kept.cell (a := w) (R := [w6.heap.size, w5.heap.size]) (hB7.cell 2) (.inr (by simp))
        have c3 := Kept.cell (a := w) (R := [w6.heap.size, w5.heap.size]) (hB7.cell 3) (.inr (by simp))
        have c4 := Kept.cell (a := w) (R := [w6.heap.size, w5.heap.size]) (hB7.cell 4) (.inr (by simp))
        have c5 := Kept.cell (a := w) (R := [w6.heap.size, w5.heap.size]) (hB7.cell 5) (.inr (by simp))
        have c6 := Kept.cell (a := w) (R := [w6.heap.size, w5.heap.size]) (hB7.cell 6) (.inr (by simp))
        have c7 := Kept.cell (a := w) (R := [w6.heap.size, w5.heap.size]) (hB7.cell 7) (.inr (by simp))
        have hdo := fun (W : World) (hk : Keeps w [w6.heap.size, w5.heap.size] w7 W) (hh : HasS w W [w6.heap.size] [w5.heap.size] (w1.heap.size + 1) w1.heap.size S1 (0 + l.length)) =>
          has_do (c := putC n ex id) hh (by omega) hpok (ev_in (e := ⟨id, ⟨#[116]⟩, ⟨#[]⟩, 0⟩) (hk.blk hE7 (.inr (by simp))) (by simp))
        rw [HPB.out.1, HPB.out.2] at hdo
        unfold Ans.val at hdo
        have HD := Lib.hid hdo
        clear hdo
        refine wp_region_stages (C := fun W => ∃ p : Kept w [w6.heap.size, w5.heap.size] w7, W = p.W) [([], [0, 1]), ([2, 3, 6], [4]), ([5], [7])] [8, 9, 10] (by kernel_rfl) (by kernel_rfl) (by intro c d u a w h; cases d <;> exact h) ⟨⟨_, (Keeps.refl _ _ _).drew⟩, rfl⟩ ?_
        refine stages_nil ?_
        show wpList _ _ _ [_] _ _
        go_wp2_with (go_at_call 11; refine (alive_any _).mono ?_; rintro e w8 ⟨rfl, ho8⟩)
        have hk8 : Keeps w [w6.heap.size, w5.heap.size] w7 w8 := (Keeps.refl _ _ _).drew.then0 ho8
        have h8 := (h7.keep (Only.refl _ _).drew).keep ho8
        refine check_kept hk8 ?_
        show wpList _ _ _ [_] _ _
        go_wp2_with fail
        refine check_kept hk8 ?_
        refine stages_next ?_
        show wpQuiet _ _ _ _ [_, _, _] _
        try go_frame
        repeat (go_big_quiet_step (fail))
        refine wpQuiet_nil ?_
        show wpList _ _ _ [_] _ _
        go_wp2_with (go_at_call 13; refine (HD.out _ hk8 h8).mono ?_; rintro e w9 ⟨rfl, h9, hk9⟩)
        have hk9' := hk8.trans hk9
        refine check_kept hk9' ?_
        refine stages_next ?_
        show wpQuiet _ _ _ _ [_] _
        try go_frame
        go_big_quiet_want
        refine ⟨.int .i64 ck, fun W _ => ?_, ?_⟩
        · unfold Oper.quietAt
          simp [execOp, hfa, Act.eval, Oper.quietUpon, Sem.run_bind, Result.andThen]
        go_big_quiet_on
        try go_frame
        refine wpQuiet_nil ?_
        show wpList _ _ _ [_] _ _
        have hE9 := hk9'.blk hE7 (.inr (by simp))
        go_wp2_with (go_at_call 18; refine (HRK.out _ _ hE9).mono ?_; rintro e w10 ⟨rfl, ho10⟩)
        refine check_kept (hk9'.then0 ho10) ?_
        refine stages_end ?_
        show wpList _ _ _ [_, _, _] _ _
        go_wp2
        go_ret
        exact ⟨rfl, h9.only.trans ho10⟩
/-- What the row asks for. -/
theorem expectsW (v1 : Value) (l : List CmdV) (n : ByteArray) (hn : n.size ≤ maxLen) (ex : Int) (hex : (Lit.int .i64 ex).wf = true) (id : Int) (hid : (Lit.int .i64 id).wf = true) (W : World)
    (x0 : Slc W 8 v1 l.length (l.flatMap CmdV.cells)) (y0 : ∀ o ∈ l, o.Ok W ∧ o.cells.length = 8) (z0 : ∀ g, v1.ownBlock = some g → g < W.heap.size ∨ l = []) :
    Calls Try.prog 4 #[v1, .string n, .int .i64 ex, .int .i64 id] W fun e W' => e = .returned (.bool true) ∧ Only [] W W' :=
  expects_go W v1 l n ex id (CmdsAt.of x0 y0 z0) hn hex
end Go.Proofs.Ytefkhkbkengniaa

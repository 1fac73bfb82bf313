/- DiskLists: the plain law and the walk. -/
import Derived.Test.YtgahjdfjlfoioaaDl6
import Derived.Sort.Walk0
import Derived.Lib.Strings
import Derived.Test.YtgahjdfjlfoioaaRegion
import Derived.Lib.QuietBelow
set_option linter.unusedVariables false
namespace Go.Proofs.Ytgahjdfjlfoioaa
open Go.RowKit Go.Sort
namespace Ls
def D (fs : Files) : DS := ⟨true, 0, fs, false, 0, []⟩
def good (n : ByteArray) : Bool := decide (1 ≤ n.size) && decide (n.size ≤ 40)
def put (fs : Files) (n : ByteArray) : Files := if good n then aput fs n { (aget fs n).getD File.zero with b := ((aget fs n).getD File.zero).b ++ ⟨#[122]⟩ } else fs
theorem put_len (fs : Files) (n : ByteArray) : (put fs n).length ≤ fs.length + 1 := by
  unfold put
  split
  · rw [length_aput]; split <;> omega
  · omega
theorem app_is (fs : Files) (n : ByteArray) (h : fs.length < 200) : (D fs).append n ⟨#[122]⟩ = (if good n then 0 else 1, D (put fs n)) := by
  unfold DS.append put
  have hm : (D fs).may [n] = if good n then 0 else 1 := by
    show (if badName n then (1 : Int) else 0) = _
    have : badName n = !good n := by
      unfold badName good
      by_cases h1 : n.size < 1 <;> by_cases h2 : 40 < n.size <;> simp [h1, h2] <;> omega
    rw [this]
    cases good n <;> rfl
  rw [hm]
  cases hg : good n
  · simp
  · have hf : (D fs).full n (ByteArray.size ⟨#[122]⟩) = false := by
      unfold DS.full
      have : ¬ 200 ≤ fs.length := by omega
      simp [D, this]
    rw [if_neg (by simp), hf, if_neg (by simp)]
    simp [DS.doneE, DS.done, DS.goes, DS.tick, D, DS.get]
theorem filter_get {α : Type} (f : α → Bool) (l : List α) (i : Nat) (h : i < l.length) (hf : f l[i] = true) : ((l.take i).filter f).length < (l.filter f).length ∧ (l.filter f)[((l.take i).filter f).length]? = some l[i] := by
  have e : l.filter f = (l.take i).filter f ++ l[i] :: (l.drop (i + 1)).filter f := by
    conv => lhs; rw [← List.take_append_drop i l, List.drop_eq_getElem_cons h, List.filter_append, List.filter_cons]
    rw [if_pos hf]
  constructor
  · rw [e]; simp
  · rw [e, List.getElem?_append_right (Nat.le_refl _)]; simp
theorem filter_take_succ {α : Type} (f : α → Bool) (l : List α) (i : Nat) (h : i < l.length) : ((l.take (i + 1)).filter f).length = ((l.take i).filter f).length + if f l[i] then 1 else 0 := by
  rw [List.take_succ_eq_append_getElem h, List.filter_append, List.length_append]
  cases hf : f l[i] <;> simp [hf]
theorem names_lt (d : DS) (hn : ANodup d.fs) (i : Nat) (h : i + 1 < d.names.length) : d.names[i].data.toList < d.names[i + 1].data.toList := by
  have e : d.names.map (fun s => s.data.toList) = (d.fs.map fun p => p.1.data.toList).mergeSort (fun x y => decide (x ≤ y)) := by
    unfold DS.names
    rw [List.map_map]
    conv => rhs; rw [← List.map_id ((d.fs.map fun p => p.1.data.toList).mergeSort _)]
    apply List.map_congr_left
    intro x _
    simp
  have hs : ((d.fs.map fun p => p.1.data.toList).mergeSort (fun x y => decide (x ≤ y))).Pairwise (fun x y => decide (x ≤ y) = true) :=
    List.pairwise_mergeSort (fun a b c h1 h2 => by simp at *; exact List.le_trans h1 h2) (fun a b => by simp; exact List.le_total a b) _
  have hd : ((d.fs.map fun p => p.1.data.toList).mergeSort (fun x y => decide (x ≤ y))).Nodup := by
    refine (List.mergeSort_perm _ _).nodup_iff.2 ?_
    have : (d.fs.map fun p => p.1.data.toList) = (d.fs.map (·.1)).map (fun s => s.data.toList) := by rw [List.map_map]; rfl
    rw [this]
    refine List.Pairwise.map _ (fun a b hab q => hab ?_) hn
    exact WideShapes.bytes_inj q
  rw [← e] at hs hd
  have h1 : (d.names.map (fun s => s.data.toList))[i]'(by simp; omega) ≤ (d.names.map (fun s => s.data.toList))[i + 1]'(by simpa using h) := by
    have := List.pairwise_iff_getElem.1 hs i (i + 1) (by simp; omega) (by simpa using h) (by omega)
    simpa using this
  have h2 : (d.names.map (fun s => s.data.toList))[i]'(by simp; omega) ≠ (d.names.map (fun s => s.data.toList))[i + 1]'(by simpa using h) :=
    List.pairwise_iff_getElem.1 hd i (i + 1) (by simp; omega) (by simpa using h) (by omega)
  simp only [List.getElem_map] at h1 h2
  exact (List.le_iff_lt_or_eq.1 h1).resolve_right h2
theorem names_lt' (d : DS) (hn : ANodup d.fs) (N : List ByteArray) (e : d.names = N) (i : Nat) (h : i + 1 < N.length) : N[i].data.toList < N[i + 1].data.toList := by
  subst e
  exact names_lt d hn i h
theorem leq_not (s t : ByteArray) (h : t.data.toList < s.data.toList) : (Op.bytesLess s.toList t.toList || s.toList == t.toList) = false := by
  rw [ByteArray.toList_eq, ByteArray.toList_eq, bytesLess_eq]
  have h1 : ¬ s.data.toList < t.data.toList := fun q => absurd (List.lt_trans h q) (List.lt_irrefl _)
  have h2 : s.data.toList ≠ t.data.toList := fun q => absurd (q ▸ h) (List.lt_irrefl _)
  have h3 : ¬ s.data = t.data := fun q => h2 (by rw [q])
  simp [h1, h3]
section
variable {A w : World} {db mb M : Nat} {fs : Files}
theorem cGood (w : World) (h : Has A w db mb (D fs) M) (n : ByteArray) (hf : fs.length < 200) (hM : M ≤ 1000000) (hb : good n = true) : Calls Try.prog 11 #[.pointer (some ⟨db, 0, none⟩), .string n, .string ⟨#[122]⟩] w fun e w' => e = .returned (.int .i64 0) ∧ Has A w' db mb (D (put fs n)) (M + 1) := by
  have := has_append h n ⟨#[122]⟩ (by show M + 1 ≤ _; omega)
  rw [app_is fs n hf, hb] at this
  exact this
theorem cBad (w : World) (h : Has A w db mb (D fs) M) (n : ByteArray) (hf : fs.length < 200) (hM : M ≤ 1000000) (hb : good n = false) : Calls Try.prog 11 #[.pointer (some ⟨db, 0, none⟩), .string n, .string ⟨#[122]⟩] w fun e w' => e = .returned (.int .i64 1) ∧ Has A w' db mb (D (put fs n)) (M + 1) := by
  have := has_append h n ⟨#[122]⟩ (by show M + 1 ≤ _; omega)
  rw [app_is fs n hf, hb] at this
  exact this
theorem cList (w : World) (h : Has A w db mb (D fs) M) (p : ByteArray) : Calls Try.prog 23 #[.pointer (some ⟨db, 0, none⟩), .string p] w fun e w' => ∃ v, e = .returned v ∧ Slc w' 1 v ((D fs).list p).length (strs ((D fs).list p)) ∧ (∀ g, v.ownBlock = some g → w.heap.size ≤ g) ∧ Has A w' db mb (D fs) M ∧ Only [] w w' := by
  obtain ⟨kv, h1, _⟩ := h.disk
  exact (list_any h1 h.ok.fs p).mono fun e w' ⟨v, q1, q2, q3, q4⟩ => ⟨v, q1, q2, q3, h.keep q4, q4⟩
end
theorem list_nil_is (fs : Files) : (D fs).list ⟨#[]⟩ = (D fs).names := by
  unfold DS.list
  rw [if_pos (show (D fs).on = true from rfl)]
  simp
def pre (p s : ByteArray) : Bool := p.data.toList.isPrefixOf s.data.toList
theorem list_pre_is (fs : Files) (p : ByteArray) : (D fs).list p = (D fs).names.filter (pre p) := by
  unfold DS.list
  rw [if_pos (show (D fs).on = true from rfl)]
  rfl
end Ls
open Ls in
set_option maxRecDepth 100000 in
set_option maxHeartbeats 4000000 in
theorem listsW (v : Value) (ss : List ByteArray) (p : ByteArray) (hp : p.size ≤ maxLen) (w : World) (hv : Slc w 1 v ss.length (strs ss)) (hz : ∀ s ∈ ss, s.size ≤ maxLen) (hg : ∀ g, v.ownBlock = some g → g < w.heap.size ∨ ss = []) :
    Calls Try.prog 5 #[v, .string p] w fun e w' => e = .returned (.bool true) ∧ Only [] w w' := by
  have hsh := bShort_any (few := 20) (room := 600) hv hz (by omega) (by omega) (by omega) (by omega)
  obtain ⟨A1, cap1, rfl, hnc1, hcm1, hl1, hc1⟩ := hv.cell
  unfold maxLen at hp hcm1
  have HSH := Lib.hid hsh
  clear hsh
  go_enter Try.func5, Try.ntmps5
  go_wp2_with (first
    | (go_at_call 22; refine HSH.out.mono ?_; rintro e w1 ⟨⟨b, rfl, hfew⟩, hs1⟩)
    | (go_at_call 9; refine (alive_any _).mono ?_; rintro e w2 ⟨rfl, hal⟩)
    | (go_at_call 10; refine (has_new w w1 hs1 0 (by decide)).mono ?_; rintro e w2 ⟨rfl, h0⟩))
  · go_ret
    exact ⟨rfl, hs1.trans hal⟩
  · have hf20 : (ss.length : Int) ≤ 20 := hfew (by assumption)
    clear hfew
    go_loopw [6] (fun i wr => ∃ (j : Nat) (fs : Files), j ≤ ss.length ∧ i = .int .i64 j ∧ fs.length ≤ j ∧ Has w wr (w1.heap.size + 1) w1.heap.size (D fs) j) (fun i _ => ss.length - (intOf i).toNat)
    case atStart => exact ⟨0, [], Nat.zero_le _, rfl, Nat.le_refl _, h0⟩
    case round =>
      obtain ⟨j, fs, hj, rfl, hfl, hH⟩ := hrel
      by_cases hlt : j < ss.length
      case pos =>
        obtain ⟨b0, off, rfl, hb0, hcc⟩ : ∃ b off, A1 = some ⟨b, off, none⟩ ∧ b < w.heap.size ∧ ∀ j, j < (strs ss).length → w.cell? ⟨b, off + j, none⟩ = (strs ss)[j]? := by
          rcases hc1 with q | q
          · omega
          · exact q
        obtain ⟨z, hze⟩ : ∃ z, z = ss[j] := ⟨_, rfl⟩
        have cz : wr.cell? ⟨b0, off + j, none⟩ = some (.string z) := by
          rw [hH.only.cell hb0 (by simp), hcc j (by simpa [strs] using hlt), hze]
          simp [strs, hlt]
        have hzm : z.size ≤ maxLen := by rw [hze]; exact hz _ (List.getElem_mem hlt)
        unfold maxLen at hzm
        have hpl := put_len fs z
        clear hcc hc1 hze
        by_cases q1 : 1 ≤ z.size
        · by_cases q2 : z.size ≤ 40
          · have hgood : good z = true := by simp [good, q1, q2]
            have hd40 : decide ((z.size : Int) ≤ 40) = true := by simp; omega
            go_wp2_with (go_at_call 11; refine (cGood _ hH z (by omega) (by omega) hgood).mono ?_; rintro e w3 ⟨rfl, h3⟩)
            exact ⟨⟨j + 1, _, by omega, by simp, by omega, h3⟩, by simp [intOf]; omega⟩
          · have hgood : good z = false := by simp [good, q2]
            have hd40 : decide ((z.size : Int) ≤ 40) = false := by simp; omega
            go_wp2_with (go_at_call 11; refine (cBad _ hH z (by omega) (by omega) hgood).mono ?_; rintro e w3 ⟨rfl, h3⟩)
            exact ⟨⟨j + 1, _, by omega, by simp, by omega, h3⟩, by simp [intOf]; omega⟩
        · have hgood : good z = false := by simp [good, q1]
          go_wp2_with (go_at_call 11; refine (cBad _ hH z (by omega) (by omega) hgood).mono ?_; rintro e w3 ⟨rfl, h3⟩)
          exact ⟨⟨j + 1, _, by omega, by simp, by omega, h3⟩, by simp [intOf]; omega⟩
      case neg =>
        obtain ⟨N, hN⟩ : ∃ N, (D fs).names = N := ⟨_, rfl⟩
        go_wp2_with (first
          | (go_at_call 23; refine (cList _ h4 ⟨#[]⟩).mono ?_; rintro e w5 ⟨v5, rfl, hs5, hg5, h5, ho5⟩; rw [list_nil_is, hN] at hs5; obtain ⟨A5, cap5, hv5, hnc5, hcm5, hl5, hc5⟩ := hs5.cell; rw [hv5])
          | (go_at_call 23; refine (cList _ hH p).mono ?_; rintro e w4 ⟨v4, rfl, hs4, hg4, h4, ho4⟩; rw [list_pre_is, hN] at hs4; obtain ⟨A4, cap4, hv4, hnc4, hcm4, hl4, hc4⟩ := hs4.cell; rw [hv4]))
        have hnl := names_lt' (D fs) h5.ok.nodup N hN
        have hnc : N.length ≤ 200 := by rw [← hN]; have := h5.ok.few; simpa [DS.names] using this
        have hfl : (N.filter (pre p)).length ≤ N.length := List.length_filter_le _ _
        go_loopw [10, 11] (fun k i wr => ∃ j : Nat, j ≤ N.length ∧ i = .int .i64 j ∧ k = .int .i64 ((N.take j).filter (pre p)).length ∧ Only [] w5 wr) (fun _ i _ => N.length - (intOf i).toNat)
        case atStart => exact ⟨0, Nat.zero_le _, rfl, by simp, Only.refl _ _⟩
        case round =>
          obtain ⟨j, hj, rfl, rfl, hO⟩ := hrel
          by_cases hlt : j < N.length
          case neg =>
            have hjn : j = N.length := by omega
            have hkn : (((N.take j).filter (pre p)).length : Int) = (N.filter (pre p)).length := by rw [hjn, List.take_length]
            clear hjn
            go_wp2_with (go_at_call 9; refine (alive_any _).mono ?_; rintro e w6 ⟨rfl, hal⟩)
            go_ret
            exact ⟨rfl, (h5.only.trans hO).trans hal⟩
          case pos =>
            obtain ⟨b5, off5, rfl, hb5, hcc5⟩ : ∃ b off, A5 = some ⟨b, off, none⟩ ∧ b < w5.heap.size ∧ ∀ j, j < (strs N).length → w5.cell? ⟨b, off + j, none⟩ = (strs N)[j]? := by
              rcases hc5 with q | q
              · omega
              · exact q
            obtain ⟨z, hze⟩ : ∃ z, z = N[j] := ⟨_, rfl⟩
            have cz : wr.cell? ⟨b5, off5 + j, none⟩ = some (.string z) := by
              rw [hO.cell hb5 (by simp), hcc5 j (by simpa [strs] using hlt), hze]
              simp [strs, hlt]
            have hts := filter_take_succ (pre p) N j hlt
            rw [← hze] at hts
            have hraw : (decide (p.size ≤ z.size) && ((z.extract 0 p.size).toList == p.toList)) = pre p z := Lib.hasPrefix_raw z p
            have hkl : ((N.take j).filter (pre p)).length ≤ j := Nat.le_trans (List.length_filter_le _ _) (by simp; omega)
            obtain ⟨k, hk⟩ : ∃ k, k = ((N.take j).filter (pre p)).length := ⟨_, rfl⟩
            have hfg : pre p z = true → k < (N.filter (pre p)).length ∧ (N.filter (pre p))[k]? = some z := by
              intro q
              rw [hk, hze]
              exact filter_get (pre p) N j hlt (by rw [← hze]; exact q)
            have hlq : ∀ i, j = i + 1 → ∃ t, wr.cell? ⟨b5, off5 + i, none⟩ = some (.string t) ∧ (Op.bytesLess z.toList t.toList || z.toList == t.toList) = false := by
              rintro i rfl
              refine ⟨N[i], ?_, leq_not z N[i] (by rw [hze]; exact hnl i hlt)⟩
              rw [hO.cell hb5 (by simp), hcc5 i (by simp [strs]; omega)]
              simp [strs, show i < N.length by omega]
            rw [← hk] at hkl hts ⊢
            clear hcc5 hc5 hze hnl hk
            have hint : ∀ x : Nat, intOf (.int .i64 (x : Int)) = x := fun x => rfl
            cases hpz : pre p z
            · have hts' : ((N.take (j + 1)).filter (pre p)).length = k := by rw [hts, hpz]; rfl
              rw [hpz] at hraw
              clear hts hfg
              by_cases hsz : p.size ≤ z.size
              · have hx : ((z.extract 0 p.size).toList == p.toList) = false := by simpa [hsz] using hraw
                clear hraw
                by_cases hj0 : 0 < j
                · obtain ⟨i, rfl⟩ : ∃ i, j = i + 1 := ⟨j - 1, by omega⟩
                  obtain ⟨t, ct, hle⟩ := hlq i rfl
                  have ct' : ∀ (e : Nat) (os : Array Obj), World.cell? (grow (redrawn wr e) os) _ = some (.string t) := fun e os => cell_regrown ct e os
                  have cz' : ∀ (e : Nat) (os : Array Obj), World.cell? (grow (redrawn wr e) os) _ = some (.string z) := fun e os => cell_regrown cz e os
                  go_wp2
                  refine wp_region_quiet_below (by kernel_rfl) (by kernel_rfl) ?_
                  repeat (go_big_quiet_step (fail))
                  refine wpQuiet_nil ?_
                  rintro _ ⟨p1, rfl⟩
                  have cz1 := cz' p1.d p1.os
                  have hO1 := hO.trans (Only.regrown [] wr p1.d p1.os)
                  skip
                  go_wp2
                  all_goals exact ⟨⟨_ + 1, hlt, by simp, by rw [hts'], by repeat (first | exact hO1 | apply Only.drew)⟩, by simp [intOf]; omega⟩
                · clear hlq
                  have hj0' : ¬ (0 : Int) < (j : Int) := by omega
                  have cz' : ∀ (e : Nat) (os : Array Obj), World.cell? (grow (redrawn wr e) os) _ = some (.string z) := fun e os => cell_regrown cz e os
                  go_wp2
                  refine wp_region_quiet_below (by kernel_rfl) (by kernel_rfl) ?_
                  repeat (go_big_quiet_step (fail))
                  refine wpQuiet_nil ?_
                  rintro _ ⟨p1, rfl⟩
                  have cz1 := cz' p1.d p1.os
                  have hO1 := hO.trans (Only.regrown [] wr p1.d p1.os)
                  skip
                  go_wp2
                  all_goals exact ⟨⟨_ + 1, hlt, by simp, by rw [hts'], by repeat (first | exact hO1 | apply Only.drew)⟩, by simp [intOf]; omega⟩
              · clear hraw
                by_cases hj0 : 0 < j
                · obtain ⟨i, rfl⟩ : ∃ i, j = i + 1 := ⟨j - 1, by omega⟩
                  obtain ⟨t, ct, hle⟩ := hlq i rfl
                  have ct' : ∀ (e : Nat) (os : Array Obj), World.cell? (grow (redrawn wr e) os) _ = some (.string t) := fun e os => cell_regrown ct e os
                  have cz' : ∀ (e : Nat) (os : Array Obj), World.cell? (grow (redrawn wr e) os) _ = some (.string z) := fun e os => cell_regrown cz e os
                  go_wp2
                  refine wp_region_quiet_below (by kernel_rfl) (by kernel_rfl) ?_
                  repeat (go_big_quiet_step (fail))
                  refine wpQuiet_nil ?_
                  rintro _ ⟨p1, rfl⟩
                  have cz1 := cz' p1.d p1.os
                  have hO1 := hO.trans (Only.regrown [] wr p1.d p1.os)
                  skip
                  go_wp2
                  all_goals exact ⟨⟨_ + 1, hlt, by simp, by rw [hts'], by repeat (first | exact hO1 | apply Only.drew)⟩, by simp [intOf]; omega⟩
                · clear hlq
                  have hj0' : ¬ (0 : Int) < (j : Int) := by omega
                  have cz' : ∀ (e : Nat) (os : Array Obj), World.cell? (grow (redrawn wr e) os) _ = some (.string z) := fun e os => cell_regrown cz e os
                  go_wp2
                  refine wp_region_quiet_below (by kernel_rfl) (by kernel_rfl) ?_
                  repeat (go_big_quiet_step (fail))
                  refine wpQuiet_nil ?_
                  rintro _ ⟨p1, rfl⟩
                  have cz1 := cz' p1.d p1.os
                  have hO1 := hO.trans (Only.regrown [] wr p1.d p1.os)
                  skip
                  go_wp2
                  all_goals exact ⟨⟨_ + 1, hlt, by simp, by rw [hts'], by repeat (first | exact hO1 | apply Only.drew)⟩, by simp [intOf]; omega⟩
            · have hts' : ((N.take (j + 1)).filter (pre p)).length = k + 1 := by rw [hts, hpz]; rfl
              rw [hpz] at hraw
              obtain ⟨hkf, hkz⟩ := hfg hpz
              clear hts hfg
              simp only [Bool.and_eq_true, decide_eq_true_eq] at hraw
              obtain ⟨hsz, hx⟩ := hraw
              obtain ⟨b4, off4, rfl, hb4, hcc4⟩ : ∃ b off, A4 = some ⟨b, off, none⟩ ∧ b < w4.heap.size ∧ ∀ j, j < (strs (N.filter (pre p))).length → w4.cell? ⟨b, off + j, none⟩ = (strs (N.filter (pre p)))[j]? := by
                rcases hc4 with q | q
                · omega
                · exact q
              have c4 : wr.cell? ⟨b4, off4 + k, none⟩ = some (.string z) := by
                rw [(ho5.trans hO).cell hb4 (by simp), hcc4 k (by simpa [strs] using hkf)]
                simp [strs, hkz]
              clear hcc4 hc4 hkz
              have hzz : (z.toList == z.toList) = true := by simp
              by_cases hj0 : 0 < j
              · obtain ⟨i, rfl⟩ : ∃ i, j = i + 1 := ⟨j - 1, by omega⟩
                obtain ⟨t, ct, hle⟩ := hlq i rfl
                have ct' : ∀ (e : Nat) (os : Array Obj), World.cell? (grow (redrawn wr e) os) _ = some (.string t) := fun e os => cell_regrown ct e os
                have cz' : ∀ (e : Nat) (os : Array Obj), World.cell? (grow (redrawn wr e) os) _ = some (.string z) := fun e os => cell_regrown cz e os
                go_wp2
                refine wp_region_quiet_below (by kernel_rfl) (by kernel_rfl) ?_
                repeat (go_big_quiet_step (fail))
                refine wpQuiet_nil ?_
                rintro _ ⟨p1, rfl⟩
                have cz1 := cz' p1.d p1.os
                have hO1 := hO.trans (Only.regrown [] wr p1.d p1.os)
                have c42 : ∀ (e : Nat) (os : Array Obj), World.cell? (grow (redrawn (grow (redrawn wr p1.d) p1.os) e) os) _ = some (.string z) := fun e os => cell_regrown (cell_regrown c4 p1.d p1.os) e os
                go_wp2
                have cz2 : ∀ (e : Nat) (os : Array Obj), World.cell? (grow (redrawn (grow (redrawn wr p1.d) p1.os) e) os) _ = some (.string z) := fun e os => cell_regrown cz1 e os
                have hkd : decide ((N.filter (pre p)).length ≤ k) = false := by simp; omega
                refine wp_region_quiet_below (by kernel_rfl) (by kernel_rfl) ?_
                repeat (go_big_quiet_step (fail))
                refine wpQuiet_nil ?_
                rintro _ ⟨p2, rfl⟩
                have hO2 := hO1.trans (Only.regrown [] _ p2.d p2.os)
                go_wp2
                all_goals exact ⟨⟨_ + 1, hlt, by simp, by rw [hts']; simp, by repeat (first | exact hO2 | apply Only.drew)⟩, by simp [intOf]; omega⟩
              · clear hlq
                have hj0' : ¬ (0 : Int) < (j : Int) := by omega
                have cz' : ∀ (e : Nat) (os : Array Obj), World.cell? (grow (redrawn wr e) os) _ = some (.string z) := fun e os => cell_regrown cz e os
                go_wp2
                refine wp_region_quiet_below (by kernel_rfl) (by kernel_rfl) ?_
                repeat (go_big_quiet_step (fail))
                refine wpQuiet_nil ?_
                rintro _ ⟨p1, rfl⟩
                have cz1 := cz' p1.d p1.os
                have hO1 := hO.trans (Only.regrown [] wr p1.d p1.os)
                have c42 : ∀ (e : Nat) (os : Array Obj), World.cell? (grow (redrawn (grow (redrawn wr p1.d) p1.os) e) os) _ = some (.string z) := fun e os => cell_regrown (cell_regrown c4 p1.d p1.os) e os
                go_wp2
                have cz2 : ∀ (e : Nat) (os : Array Obj), World.cell? (grow (redrawn (grow (redrawn wr p1.d) p1.os) e) os) _ = some (.string z) := fun e os => cell_regrown cz1 e os
                have hkd : decide ((N.filter (pre p)).length ≤ k) = false := by simp; omega
                refine wp_region_quiet_below (by kernel_rfl) (by kernel_rfl) ?_
                repeat (go_big_quiet_step (fail))
                refine wpQuiet_nil ?_
                rintro _ ⟨p2, rfl⟩
                have hO2 := hO1.trans (Only.regrown [] _ p2.d p2.os)
                go_wp2
                all_goals exact ⟨⟨_ + 1, hlt, by simp, by rw [hts']; simp, by repeat (first | exact hO2 | apply Only.drew)⟩, by simp [intOf]; omega⟩
  · go_ret
    exact ⟨rfl, hs1.trans hal⟩
end Go.Proofs.Ytgahjdfjlfoioaa

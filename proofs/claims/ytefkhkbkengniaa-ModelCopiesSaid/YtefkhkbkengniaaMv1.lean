/- Contracts: pages forward. -/
import Derived.Test.YtefkhkbkengniaaMo1
import Derived.Test.YtefkhkbkengniaaPlan2
set_option linter.unusedVariables false
set_option linter.unusedSimpArgs false
namespace Go.Proofs.Ytefkhkbkengniaa
open Go.RowKit
structure PageR where
  events : List StoredR
  next : Int
  isEnd : Bool
def PageR.zero : PageR := ⟨[], 0, false⟩
def wrongP (f n : Int) : Bool := decide (f < 0) || decide (n < 1) || decide (n > 100)
def fwdGo (key : StoredR → Int) (f n : Int) : List StoredR → List StoredR → Int → PageR
  | [], acc, nx => ⟨acc, nx, true⟩
  | s :: l, acc, nx => if key s < f then fwdGo key f n l acc nx else if (acc.length : Int) = n then ⟨acc, nx, false⟩ else fwdGo key f n l (acc ++ [s]) (key s + 1)
def forwardBy (key : StoredR → Int) (l : List StoredR) (f n : Int) : PageR × Int := if wrongP f n then (PageR.zero, 1) else (fwdGo key f n l [] f, 0)
theorem fwdGo_drop (key : StoredR → Int) (f n : Int) (l : List StoredR) (k : Nat) (h : k < l.length) (acc : List StoredR) (nx : Int) :
    fwdGo key f n (l.drop k) acc nx = if key l[k] < f then fwdGo key f n (l.drop (k + 1)) acc nx else if (acc.length : Int) = n then ⟨acc, nx, false⟩ else fwdGo key f n (l.drop (k + 1)) (acc ++ [l[k]]) (key l[k] + 1) := by
  rw [List.drop_eq_getElem_cons h]
  rfl
def StoredR.val (s : StoredR) : Value := .agg #[.int .i64 s.ev.id, .string s.ev.type, .string s.ev.data, .float .f64 s.ev.value, .string s.stream, .int .i64 s.version, .int .i64 s.position, .int .i64 s.time]
set_option maxRecDepth 100000 in
theorem version_any (s : StoredR) (w : World) : Calls Try.prog 48 #[.agg #[.int .i64 s.ev.id, .string s.ev.type, .string s.ev.data, .float .f64 s.ev.value, .string s.stream, .int .i64 s.version, .int .i64 s.position, .int .i64 s.time]] w fun e w' => e = .returned (.int .i64 s.version) ∧ Only [] w w' := by
  go_enter Try.func48, Try.ntmps48
  go_wp2
  go_ret
  exact ⟨rfl, (Only.refl [] w).alloc _⟩
set_option maxRecDepth 100000 in
theorem position_any (s : StoredR) (w : World) : Calls Try.prog 87 #[.agg #[.int .i64 s.ev.id, .string s.ev.type, .string s.ev.data, .float .f64 s.ev.value, .string s.stream, .int .i64 s.version, .int .i64 s.position, .int .i64 s.time]] w fun e w' => e = .returned (.int .i64 s.position) ∧ Only [] w w' := by
  go_enter Try.func87, Try.ntmps87
  go_wp2
  go_ret
  exact ⟨rfl, (Only.refl [] w).alloc _⟩
theorem vwrong_any (f n : Int) (w : World) : Calls Try.prog 78 #[.int .i64 f, .int .i64 n] w fun e w' => e = .returned (.bool (wrongP f n)) ∧ w = w' := by
  by_cases h1 : f < 0
  · go_enter Try.func78, Try.ntmps78
    go_wp2
    go_ret
    exact ⟨ret_b (by simp [wrongP, h1]), rfl⟩
  · by_cases h2 : n < 1
    · go_enter Try.func78, Try.ntmps78
      go_wp2
      go_ret
      exact ⟨ret_b (by simp [wrongP]; omega), rfl⟩
    · go_enter Try.func78, Try.ntmps78
      go_wp2
      go_ret
      exact ⟨ret_b (by simp [wrongP]; omega), rfl⟩
theorem vnext_any (n : Int) (hn : 0 ≤ n ∧ n ≤ 1000000000000) (w : World) : Calls Try.prog 80 #[.int .i64 n] w fun e w' => e = .returned (.int .i64 (n + 1)) ∧ w = w' := by
  have h1 : (n == 9223372036854775807) = false := by rw [beq_eq_false_iff_ne]; omega
  go_enter Try.func80, Try.ntmps80
  go_wp2
  go_ret
  exact ⟨rfl, rfl⟩
/-- What stands at the head of a round of a page. -/
structure PgAt (w wr : World) (pb : Nat) (pv : Value) (acc : List StoredR) (nx : Int) : Prop where
  only : Only [] w wr
  blkR : Blk wr w.heap.size 60 #[.slice none 0 0, .int .i64 0, .bool false]
  blkP : Blk wr pb 60 #[pv, .int .i64 nx, .bool true]
  own : wr.ownsRow w.heap.size 48 8 pv acc.length (acc.flatMap StoredR.cells)
theorem PgAt.only0 {w wr w' : World} {pb : Nat} {pv : Value} {acc : List StoredR} {nx : Int} (h : PgAt w wr pb pv acc nx) (k : Only [] wr w') : PgAt w w' pb pv acc nx :=
  ⟨h.only.trans k, k.blk h.blkR (by simp), k.blk h.blkP (by simp), own_only h.own k (by simp)⟩
theorem PgAt.nown {w wr : World} {pb : Nat} {pv : Value} {acc : List StoredR} {nx : Int} (h : PgAt w wr pb pv acc nx) : ∀ g, pv.ownBlock = some g → g ≠ w.heap.size ∧ g ≠ pb := fun g hg => by
  obtain ⟨cur, hcur⟩ := own_type h.own hg
  exact ⟨hcur.other h.blkR (by decide), hcur.other h.blkP (by decide)⟩
theorem flat_snoc {E : Type} (cells : E → List Value) (l : List E) (x : E) : (l ++ [x]).flatMap cells = l.flatMap cells ++ cells x := by simp
/-- What a page's call leaves. -/
def PageOut (w : World) (key : StoredR → Int) (l : List StoredR) (f n : Int) (r : PageR × Int) (e : Ending) (w' : World) : Prop :=
  ∃ pv, e = .returned (.tuple #[.agg #[pv, .int .i64 r.1.next, .bool r.1.isEnd], .int .i64 r.2]) ∧ w'.ownsRow w.heap.size 48 8 pv r.1.events.length (r.1.events.flatMap StoredR.cells) ∧ Only [] w w'
set_option maxRecDepth 100000 in
set_option maxHeartbeats 4000000 in
theorem forwardV_any {w : World} {v : Value} {l : List StoredR} {f n : Int} (hl : Slc w 8 v l.length (l.flatMap StoredR.cells)) (hb : l.length ≤ 1000000) (hk : ∀ s ∈ l, 0 ≤ StoredR.version s ∧ StoredR.version s ≤ 1000000000) :
    Calls Try.prog 50 #[.func (.func 48) #[] #[], v, .int .i64 f, .int .i64 n] w (PageOut w StoredR.version l f n (forwardBy StoredR.version l f n)) := by
  obtain ⟨A, cap, rfl, hnc, hcm, hel⟩ := hl.openE StoredR.cells (fun _ => rfl)
  obtain ⟨j0, hj, hy0, hy1, hy2⟩ := info_parts infoSt
  unfold maxLen at hcm
  cases hw : wrongP f n with
  | true =>
    have HW := Lib.hid hw
    have HV := Lib.hid (fun W => vwrong_any f n W)
    rw [hw] at HV
    clear hel hw
    have hR : forwardBy StoredR.version l f n = (PageR.zero, 1) := by unfold forwardBy; rw [HW.out]; rfl
    rw [hR]
    clear hR
    go_enter Try.func50, Try.ntmps50
    go_wp2_with (go_at_call 78; refine (HV.out _).mono ?_; rintro e w1 ⟨rfl, rfl⟩)
    exact bodyPost_ret (v := .tuple #[.agg #[.slice none 0 0, .int .i64 0, .bool false], .int .i64 1]) (by simp [results, Try.results50, go_sem]) rfl ⟨_, rfl, World.ownsRow_nil _ _ _ _, (Only.refl [] w).alloc _⟩
  | false =>
    have HW := Lib.hid hw
    have HV := Lib.hid (fun W => vwrong_any f n W)
    rw [hw] at HV
    have hn : 1 ≤ n ∧ n ≤ 100 := by simp [wrongP] at hw; omega
    clear hw
    have hR : forwardBy StoredR.version l f n = (fwdGo StoredR.version f n l [] f, 0) := by unfold forwardBy; rw [HW.out]; rfl
    rw [hR]
    clear hR
    obtain ⟨R, hR⟩ : ∃ R, R = fwdGo StoredR.version f n l [] f := ⟨_, rfl⟩
    rw [← hR]
    have HR := Lib.hid hR
    clear hR
    go_enter Try.func50, Try.ntmps50
    go_wp2_with (go_at_call 78; refine (HV.out _).mono ?_; rintro e w1 ⟨rfl, rfl⟩)
    go_loopw [21] (fun i wr => ∃ (k : Nat) (pv : Value) (acc : List StoredR) (nx : Int), k ≤ l.length ∧ acc.length ≤ k ∧ i = .int .i64 k ∧ Hid (R = fwdGo StoredR.version f n (l.drop k) acc nx) ∧ PgAt w wr (w.heap.size + 1) pv acc nx) (fun i _ => l.length - (intOf i).toNat)
    case atStart =>
      refine ⟨0, .slice none 0 0, [], f, Nat.zero_le _, Nat.le_refl _, rfl, HR, ((Only.refl [] w).alloc _).alloc _, ((Only.refl [] _).alloc _).blk (Blk.new w _ _) (by simp), ?_, World.ownsRow_nil _ _ _ _⟩
      have := Blk.new (w.alloc (.cells #[.slice none 0 0, .int .i64 0, .bool false] 60)) 60 #[.slice none 0 0, .int .i64 f, .bool true]
      simpa using this
    case round =>
      obtain ⟨k, pv, acc, nx, hkl, hak, rfl, HR, hP⟩ := hrel
      obtain ⟨Ap, capp, rfl, hap1, hap2⟩ := own_form hP.own
      have hbR := fun i => hP.blkR.cell i
      have hbRf := fun i => hP.blkR.free i
      have hbP := fun i => hP.blkP.cell i
      have hbPf := fun i => hP.blkP.free i
      by_cases hlt : k < l.length
      · obtain ⟨b, off, rfl, hbb, hcc⟩ := hel k hlt
        have hd := fwdGo_drop StoredR.version f n l k hlt acc nx
        have hks := hk _ (List.getElem_mem hlt)
        obtain ⟨s, hs⟩ : ∃ s, s = l[k] := ⟨_, rfl⟩
        rw [← hs] at hd hcc hks
        have c0 : wr.cell? ⟨b, off + k * 8, none⟩ = some (.int .i64 s.ev.id) := (hP.only.cell hbb (by simp)).trans (hcc 0 (by omega))
        have c1 : wr.cell? ⟨b, off + k * 8 + 1, none⟩ = some (.string s.ev.type) := (hP.only.cell hbb (by simp)).trans (hcc 1 (by omega))
        have c2 : wr.cell? ⟨b, off + k * 8 + 2, none⟩ = some (.string s.ev.data) := (hP.only.cell hbb (by simp)).trans (hcc 2 (by omega))
        have c3 : wr.cell? ⟨b, off + k * 8 + 3, none⟩ = some (.float .f64 s.ev.value) := (hP.only.cell hbb (by simp)).trans (hcc 3 (by omega))
        have c4 : wr.cell? ⟨b, off + k * 8 + 4, none⟩ = some (.string s.stream) := (hP.only.cell hbb (by simp)).trans (hcc 4 (by omega))
        have c5 : wr.cell? ⟨b, off + k * 8 + 5, none⟩ = some (.int .i64 s.version) := (hP.only.cell hbb (by simp)).trans (hcc 5 (by omega))
        have c6 : wr.cell? ⟨b, off + k * 8 + 6, none⟩ = some (.int .i64 s.position) := (hP.only.cell hbb (by simp)).trans (hcc 6 (by omega))
        have c7 : wr.cell? ⟨b, off + k * 8 + 7, none⟩ = some (.int .i64 s.time) := (hP.only.cell hbb (by simp)).trans (hcc 7 (by omega))
        have hKC := Lib.hid (fun W => version_any s W)
        obtain ⟨ky, hky⟩ : ∃ ky, ky = StoredR.version s := ⟨_, rfl⟩
        have HKY := Lib.hid hky
        have hsf := stF
        clear hcc
        by_cases h1 : StoredR.version s < f
        · have HN : Hid (R = fwdGo StoredR.version f n (l.drop (k + 1)) acc nx) := by
            unfold Hid
            rw [HR.out, hd, if_pos h1]
          have HP := Lib.hid hP
          clear hd hP HR hs hel
          go_wp2_with (go_at_call 48; refine (hKC.out _).mono ?_; rintro e w2 ⟨rfl, ho2⟩)
          exact ⟨⟨k + 1, _, acc, nx, hlt, by omega, by simp, HN, HP.out.only0 (((Only.refl [] _).alloc _).trans ho2)⟩, by simp [intOf]; omega⟩
        · by_cases h2 : (acc.length : Int) = n
          · have HN : R = ⟨acc, nx, false⟩ := by
              rw [HR.out, hd, if_neg h1, if_pos h2]
            have h2b : ((acc.length : Int) == n) = true := by rw [beq_iff_eq]; exact h2
            subst HN
            have HP := Lib.hid hP
            clear hd hP HR hs hel
            go_wp2_with (go_at_call 48; refine (hKC.out _).mono ?_; rintro e w2 ⟨rfl, ho2⟩
                         have hP2 := HP.out.only0 (((Only.refl [] _).alloc _).trans ho2)
                         have d1 := fun i => hP2.blkP.cell i
                         have d2 := fun i => hP2.blkP.free i
                         have d3 := fun u v i => (((Only.refl [w.heap.size + 1] w2).setCell (p := ⟨w.heap.size + 1, u, none⟩) (.inl (by simp)) v).blk hP2.blkR (by simp)).cell i
                         have d4 := fun u v i => (((Only.refl [w.heap.size + 1] w2).setCell (p := ⟨w.heap.size + 1, u, none⟩) (.inl (by simp)) v).blk hP2.blkR (by simp)).free i)
            refine bodyPost_ret (v := .tuple #[.agg #[.slice Ap acc.length capp, .int .i64 nx, .bool false], .int .i64 0]) (by simp [results, Try.results50, go_sem, d3]) rfl ⟨_, rfl, ?own, ?only⟩
            case own =>
              refine own_only hP2.own (S := [w.heap.size, w.heap.size + 1]) ?_ (fun g hg => by have := hP2.nown g hg; simp; omega)
              iterate 4 (refine Only.setCell ?_ (.inl (by simp)) _)
              exact Only.refl _ _
            case only =>
              iterate 4 (refine Only.setCell ?_ (.inr (by simp)) _)
              exact hP2.only
          · have h2b : ((acc.length : Int) == n) = false := by rw [beq_eq_false_iff_ne]; exact h2
            have HN : Hid (R = fwdGo StoredR.version f n (l.drop (k + 1)) (acc ++ [s]) (StoredR.version s + 1)) := by
              unfold Hid
              rw [HR.out, hd, if_neg h1, if_neg h2]
            have HNX := Lib.hid (fun W => vnext_any (StoredR.version s) ⟨by omega, by omega⟩ W)
            have hakb : acc.length + 1 ≤ 1000001 := by omega
            have HP := Lib.hid hP
            clear hd hP HR hs hel
            go_wp2_with (go_at_call 48; refine (hKC.out _).mono ?_; rintro e w2 ⟨rfl, ho2⟩
                         have hP2 := HP.out.only0 (((Only.refl [] _).alloc _).trans ho2)
                         have d1 := fun i => hP2.blkP.cell i
                         have d2 := fun i => hP2.blkP.free i
                         have hB := ho2.blk (Blk.new wr _ _) (by simp))
            have hlw : wr.heap.size < w2.heap.size := by have := ho2.size; simp at this; omega
            have hrw := HP.out.only.size
            obtain ⟨So, hSo⟩ : ∃ So, So = (Value.slice Ap acc.length capp).ownBlock.toList := ⟨_, rfl⟩
            have hSn : ∀ g ∈ So, w.heap.size ≤ g ∧ g ≠ w.heap.size ∧ g ≠ w.heap.size + 1 ∧ g < wr.heap.size := by
              intro g hg
              rw [hSo] at hg
              have hg' : (Value.slice Ap acc.length capp).ownBlock = some g := by simpa using hg
              have h3 := HP.out.nown g hg'
              have h4 := HP.out.own.lt g hg'
              exact ⟨h4.1, h3.1, h3.2, h4.2⟩
            have nP : w.heap.size + 1 ∉ So := fun q => (hSn _ q).2.2.1 rfl
            have nR : w.heap.size ∉ So := fun q => (hSn _ q).2.1 rfl
            have nB : wr.heap.size ∉ So := fun q => Nat.lt_irrefl _ (hSn _ q).2.2.2
            have F0 := Within.cell (S := So) (hP2.blkP.cell 0) nP
            have G0 := Within.cell (S := So) (hB.cell 0) nB
            have G1 := Within.cell (S := So) (hB.cell 1) nB
            have G2 := Within.cell (S := So) (hB.cell 2) nB
            have G3 := Within.cell (S := So) (hB.cell 3) nB
            have G4 := Within.cell (S := So) (hB.cell 4) nB
            have G5 := Within.cell (S := So) (hB.cell 5) nB
            have G6 := Within.cell (S := So) (hB.cell 6) nB
            have G7 := Within.cell (S := So) (hB.cell 7) nB
            refine wp_region_in2 So [0, 1, 2, 5, 6] [3, 4] [9] [7, 8] [10, 11, 12] (by kernel_rfl) (by kernel_rfl) (by intro c d u a w h; cases d <;> exact h) ?_
            show wpQuiet _ _ _ _ [_, _, _, _, _] _
            repeat (go_big_quiet_step (fail))
            refine wpQuiet_nil ?_
            show wpList _ _ _ [_] _ _
            go_wp2_with fail
            refine check_of (S := So) (((Only.refl So w2).alloc _).drew) ?_
            show wpList _ _ _ [_] _ _
            have hOw : ∀ o, Only [] w2 (w2.alloc o).drew := fun o => ((Only.refl [] w2).alloc o).drew
            have hown0 := fun o => own_only hP2.own (hOw o) (by simp)
            have hnb := Blk.new w2 48 #[.int .i64 s.ev.id, .string s.ev.type, .string s.ev.data, .float .f64 s.ev.value, .string s.stream, .int .i64 s.version, .int .i64 s.position, .int .i64 s.time]
            have hnb' : Blk (w2.alloc (.cells #[.int .i64 s.ev.id, .string s.ev.type, .string s.ev.data, .float .f64 s.ev.value, .string s.stream, .int .i64 s.version, .int .i64 s.position, .int .i64 s.time] 48)).drew w2.heap.size 48 #[.int .i64 s.ev.id, .string s.ev.type, .string s.ev.data, .float .f64 s.ev.value, .string s.stream, .int .i64 s.version, .int .i64 s.position, .int .i64 s.time] := hnb
            refine wpList_append_lies rfl (.tmp 26) (.tmp 28) 45 rfl w.heap.size 48 j0 (.agg #[.int .i64 0, .string ⟨#[]⟩, .string ⟨#[]⟩, .float .f64 0, .string ⟨#[]⟩, .int .i64 0, .int .i64 0, .int .i64 0]) 8 88 Try.underlying45 hj hy0 hy1 hy2 rfl (by decide) (.slice Ap acc.length capp) acc.length _ rfl (hown0 _) ⟨w2.heap.size, 0, none⟩ 1 1 [.int .i64 s.ev.id, .string s.ev.type, .string s.ev.data, .float .f64 s.ev.value, .string s.stream, .int .i64 s.version, .int .i64 s.position, .int .i64 s.time] rfl rfl (news_blk hnb') ?c2 (by decide) ?c3 ?c4 ?c5 ?_
            case c2 => simp [Value.oneCell']
            case c3 => unfold maxLen; omega
            case c4 => omega
            case c5 => have := hP2.only.size; simp; omega
            intro g4 cap4 w4 hown4 hgrow4 hlie4 hg4
            have ho24 : Only So w2 w4 := (((Only.refl So w2).alloc _).drew).grown hgrow4 (fun g hg => .inl (by rw [hSo, hg]; simp))
            have hP4 : Blk w4 (w.heap.size + 1) 60 #[.slice Ap acc.length capp, .int .i64 nx, .bool true] := ho24.blk hP2.blkP nP
            have hR4 : Blk w4 w.heap.size 60 #[.slice none 0 0, .int .i64 0, .bool false] := ho24.blk hP2.blkR nR
            clear hgrow4 hlie4 F0 G0 G1 G2 G3 G4 G5 G6 G7 hnb hnb' hown0
            refine wpList_nil ?_
            refine check_of ho24 ?_
            show wpQuiet _ _ _ _ [_] _
            go_frame
            repeat (go_big_quiet_step (fail))
            refine wpQuiet_nil ?_
            show wpList _ _ _ [_] _ _
            go_wp2_with (go_at_call 48; refine (hKC.out _).mono ?_; rintro e w5 ⟨rfl, ho5⟩)
            refine check_of (ho24.trans ho5.of_nil) ?_
            show wpList _ _ _ [_] _ _
            go_wp2_with (go_at_call 80; refine (HNX.out _).mono ?_; rintro e w6 ⟨rfl, rfl⟩)
            refine check_of (ho24.trans ho5.of_nil) ?_
            show wpList _ _ _ [_, _, _] _ _
            have hP5 := ho5.blk hP4 (by simp)
            have e1 := fun i => hP5.cell i
            have e2 := fun i => hP5.free i
            have hOs : ∀ u v, Only [w.heap.size + 1] w5 ((w5.setCell ⟨w.heap.size + 1, 0, none⟩ u).setCell ⟨w.heap.size + 1, 1, none⟩ v) := fun u v => ((Only.refl _ w5).setCell (.inl (by simp)) u).setCell (.inl (by simp)) v
            have hNext : ∀ v, PgAt w ((w5.setCell ⟨w.heap.size + 1, 0, none⟩ (.slice (some ⟨g4, 0, none⟩) (acc.length + 1) cap4)).setCell ⟨w.heap.size + 1, 1, none⟩ (.int .i64 v)) (w.heap.size + 1) (.slice (some ⟨g4, 0, none⟩) (acc.length + 1) cap4) (acc ++ [s]) v := fun v => by
              refine ⟨(hP2.only.step (ho24.trans ho5.of_nil) (fun g hg => .inr (hSn g hg).1)).step (hOs _ _) (fun g hg => by simp at hg; right; omega), (hOs _ _).blk (ho5.blk hR4 (by simp)) (by simp), (hP5.set 0 _).set 1 _, ?_⟩
              have q := own_only (own_only hown4 ho5 (by simp)) (hOs (.slice (some ⟨g4, 0, none⟩) (acc.length + 1) cap4) (.int .i64 v)) (fun g hg => by
                cases hg
                obtain ⟨cur, hcur⟩ := own_type hown4 (g := g4) rfl
                simp
                exact hcur.other hP4 (by decide))
              rw [flat_snoc, List.length_append]
              exact q
            have HNext := Lib.hid hNext
            clear hNext
            go_wp2
            exact ⟨⟨k + 1, _, acc ++ [s], _, hlt, by simp; omega, by simp, HN, HNext.out _⟩, by simp [intOf]; omega⟩
      · have hkn : R = ⟨acc, nx, true⟩ := by
          rw [HR.out, List.drop_of_length_le (by omega)]
          rfl
        subst hkn
        have HP := Lib.hid hP
        clear hP HR hel
        go_wp2
        refine bodyPost_ret (v := .tuple #[.agg #[.slice Ap acc.length capp, .int .i64 nx, .bool true], .int .i64 0]) (by simp [results, Try.results50, go_sem, hbR]) rfl ⟨_, rfl, ?own, ?only⟩
        case own =>
          refine own_only HP.out.own (S := [w.heap.size]) ?_ (fun g hg => by simpa using (HP.out.nown g hg).1)
          iterate 3 (refine Only.setCell ?_ (.inl (by simp)) _)
          exact Only.refl _ _
        case only =>
          iterate 3 (refine Only.setCell ?_ (.inr (Nat.le_refl _)) _)
          exact HP.out.only
set_option maxRecDepth 100000 in
set_option maxHeartbeats 4000000 in
theorem forwardP_any {w : World} {v : Value} {l : List StoredR} {f n : Int} (hl : Slc w 8 v l.length (l.flatMap StoredR.cells)) (hb : l.length ≤ 1000000) (hk : ∀ s ∈ l, 0 ≤ StoredR.position s ∧ StoredR.position s ≤ 1000000000) :
    Calls Try.prog 50 #[.func (.func 87) #[] #[], v, .int .i64 f, .int .i64 n] w (PageOut w StoredR.position l f n (forwardBy StoredR.position l f n)) := by
  obtain ⟨A, cap, rfl, hnc, hcm, hel⟩ := hl.openE StoredR.cells (fun _ => rfl)
  obtain ⟨j0, hj, hy0, hy1, hy2⟩ := info_parts infoSt
  unfold maxLen at hcm
  cases hw : wrongP f n with
  | true =>
    have HW := Lib.hid hw
    have HV := Lib.hid (fun W => vwrong_any f n W)
    rw [hw] at HV
    clear hel hw
    have hR : forwardBy StoredR.position l f n = (PageR.zero, 1) := by unfold forwardBy; rw [HW.out]; rfl
    rw [hR]
    clear hR
    go_enter Try.func50, Try.ntmps50
    go_wp2_with (go_at_call 78; refine (HV.out _).mono ?_; rintro e w1 ⟨rfl, rfl⟩)
    exact bodyPost_ret (v := .tuple #[.agg #[.slice none 0 0, .int .i64 0, .bool false], .int .i64 1]) (by simp [results, Try.results50, go_sem]) rfl ⟨_, rfl, World.ownsRow_nil _ _ _ _, (Only.refl [] w).alloc _⟩
  | false =>
    have HW := Lib.hid hw
    have HV := Lib.hid (fun W => vwrong_any f n W)
    rw [hw] at HV
    have hn : 1 ≤ n ∧ n ≤ 100 := by simp [wrongP] at hw; omega
    clear hw
    have hR : forwardBy StoredR.position l f n = (fwdGo StoredR.position f n l [] f, 0) := by unfold forwardBy; rw [HW.out]; rfl
    rw [hR]
    clear hR
    obtain ⟨R, hR⟩ : ∃ R, R = fwdGo StoredR.position f n l [] f := ⟨_, rfl⟩
    rw [← hR]
    have HR := Lib.hid hR
    clear hR
    go_enter Try.func50, Try.ntmps50
    go_wp2_with (go_at_call 78; refine (HV.out _).mono ?_; rintro e w1 ⟨rfl, rfl⟩)
    go_loopw [21] (fun i wr => ∃ (k : Nat) (pv : Value) (acc : List StoredR) (nx : Int), k ≤ l.length ∧ acc.length ≤ k ∧ i = .int .i64 k ∧ Hid (R = fwdGo StoredR.position f n (l.drop k) acc nx) ∧ PgAt w wr (w.heap.size + 1) pv acc nx) (fun i _ => l.length - (intOf i).toNat)
    case atStart =>
      refine ⟨0, .slice none 0 0, [], f, Nat.zero_le _, Nat.le_refl _, rfl, HR, ((Only.refl [] w).alloc _).alloc _, ((Only.refl [] _).alloc _).blk (Blk.new w _ _) (by simp), ?_, World.ownsRow_nil _ _ _ _⟩
      have := Blk.new (w.alloc (.cells #[.slice none 0 0, .int .i64 0, .bool false] 60)) 60 #[.slice none 0 0, .int .i64 f, .bool true]
      simpa using this
    case round =>
      obtain ⟨k, pv, acc, nx, hkl, hak, rfl, HR, hP⟩ := hrel
      obtain ⟨Ap, capp, rfl, hap1, hap2⟩ := own_form hP.own
      have hbR := fun i => hP.blkR.cell i
      have hbRf := fun i => hP.blkR.free i
      have hbP := fun i => hP.blkP.cell i
      have hbPf := fun i => hP.blkP.free i
      by_cases hlt : k < l.length
      · obtain ⟨b, off, rfl, hbb, hcc⟩ := hel k hlt
        have hd := fwdGo_drop StoredR.position f n l k hlt acc nx
        have hks := hk _ (List.getElem_mem hlt)
        obtain ⟨s, hs⟩ : ∃ s, s = l[k] := ⟨_, rfl⟩
        rw [← hs] at hd hcc hks
        have c0 : wr.cell? ⟨b, off + k * 8, none⟩ = some (.int .i64 s.ev.id) := (hP.only.cell hbb (by simp)).trans (hcc 0 (by omega))
        have c1 : wr.cell? ⟨b, off + k * 8 + 1, none⟩ = some (.string s.ev.type) := (hP.only.cell hbb (by simp)).trans (hcc 1 (by omega))
        have c2 : wr.cell? ⟨b, off + k * 8 + 2, none⟩ = some (.string s.ev.data) := (hP.only.cell hbb (by simp)).trans (hcc 2 (by omega))
        have c3 : wr.cell? ⟨b, off + k * 8 + 3, none⟩ = some (.float .f64 s.ev.value) := (hP.only.cell hbb (by simp)).trans (hcc 3 (by omega))
        have c4 : wr.cell? ⟨b, off + k * 8 + 4, none⟩ = some (.string s.stream) := (hP.only.cell hbb (by simp)).trans (hcc 4 (by omega))
        have c5 : wr.cell? ⟨b, off + k * 8 + 5, none⟩ = some (.int .i64 s.version) := (hP.only.cell hbb (by simp)).trans (hcc 5 (by omega))
        have c6 : wr.cell? ⟨b, off + k * 8 + 6, none⟩ = some (.int .i64 s.position) := (hP.only.cell hbb (by simp)).trans (hcc 6 (by omega))
        have c7 : wr.cell? ⟨b, off + k * 8 + 7, none⟩ = some (.int .i64 s.time) := (hP.only.cell hbb (by simp)).trans (hcc 7 (by omega))
        have hKC := Lib.hid (fun W => position_any s W)
        obtain ⟨ky, hky⟩ : ∃ ky, ky = StoredR.position s := ⟨_, rfl⟩
        have HKY := Lib.hid hky
        have hsf := stF
        clear hcc
        by_cases h1 : StoredR.position s < f
        · have HN : Hid (R = fwdGo StoredR.position f n (l.drop (k + 1)) acc nx) := by
            unfold Hid
            rw [HR.out, hd, if_pos h1]
          have HP := Lib.hid hP
          clear hd hP HR hs hel
          go_wp2_with (go_at_call 87; refine (hKC.out _).mono ?_; rintro e w2 ⟨rfl, ho2⟩)
          exact ⟨⟨k + 1, _, acc, nx, hlt, by omega, by simp, HN, HP.out.only0 (((Only.refl [] _).alloc _).trans ho2)⟩, by simp [intOf]; omega⟩
        · by_cases h2 : (acc.length : Int) = n
          · have HN : R = ⟨acc, nx, false⟩ := by
              rw [HR.out, hd, if_neg h1, if_pos h2]
            have h2b : ((acc.length : Int) == n) = true := by rw [beq_iff_eq]; exact h2
            subst HN
            have HP := Lib.hid hP
            clear hd hP HR hs hel
            go_wp2_with (go_at_call 87; refine (hKC.out _).mono ?_; rintro e w2 ⟨rfl, ho2⟩
                         have hP2 := HP.out.only0 (((Only.refl [] _).alloc _).trans ho2)
                         have d1 := fun i => hP2.blkP.cell i
                         have d2 := fun i => hP2.blkP.free i
                         have d3 := fun u v i => (((Only.refl [w.heap.size + 1] w2).setCell (p := ⟨w.heap.size + 1, u, none⟩) (.inl (by simp)) v).blk hP2.blkR (by simp)).cell i
                         have d4 := fun u v i => (((Only.refl [w.heap.size + 1] w2).setCell (p := ⟨w.heap.size + 1, u, none⟩) (.inl (by simp)) v).blk hP2.blkR (by simp)).free i)
            refine bodyPost_ret (v := .tuple #[.agg #[.slice Ap acc.length capp, .int .i64 nx, .bool false], .int .i64 0]) (by simp [results, Try.results50, go_sem, d3]) rfl ⟨_, rfl, ?own, ?only⟩
            case own =>
              refine own_only hP2.own (S := [w.heap.size, w.heap.size + 1]) ?_ (fun g hg => by have := hP2.nown g hg; simp; omega)
              iterate 4 (refine Only.setCell ?_ (.inl (by simp)) _)
              exact Only.refl _ _
            case only =>
              iterate 4 (refine Only.setCell ?_ (.inr (by simp)) _)
              exact hP2.only
          · have h2b : ((acc.length : Int) == n) = false := by rw [beq_eq_false_iff_ne]; exact h2
            have HN : Hid (R = fwdGo StoredR.position f n (l.drop (k + 1)) (acc ++ [s]) (StoredR.position s + 1)) := by
              unfold Hid
              rw [HR.out, hd, if_neg h1, if_neg h2]
            have HNX := Lib.hid (fun W => vnext_any (StoredR.position s) ⟨by omega, by omega⟩ W)
            have hakb : acc.length + 1 ≤ 1000001 := by omega
            have HP := Lib.hid hP
            clear hd hP HR hs hel
            go_wp2_with (go_at_call 87; refine (hKC.out _).mono ?_; rintro e w2 ⟨rfl, ho2⟩
                         have hP2 := HP.out.only0 (((Only.refl [] _).alloc _).trans ho2)
                         have d1 := fun i => hP2.blkP.cell i
                         have d2 := fun i => hP2.blkP.free i
                         have hB := ho2.blk (Blk.new wr _ _) (by simp))
            have hlw : wr.heap.size < w2.heap.size := by have := ho2.size; simp at this; omega
            have hrw := HP.out.only.size
            obtain ⟨So, hSo⟩ : ∃ So, So = (Value.slice Ap acc.length capp).ownBlock.toList := ⟨_, rfl⟩
            have hSn : ∀ g ∈ So, w.heap.size ≤ g ∧ g ≠ w.heap.size ∧ g ≠ w.heap.size + 1 ∧ g < wr.heap.size := by
              intro g hg
              rw [hSo] at hg
              have hg' : (Value.slice Ap acc.length capp).ownBlock = some g := by simpa using hg
              have h3 := HP.out.nown g hg'
              have h4 := HP.out.own.lt g hg'
              exact ⟨h4.1, h3.1, h3.2, h4.2⟩
            have nP : w.heap.size + 1 ∉ So := fun q => (hSn _ q).2.2.1 rfl
            have nR : w.heap.size ∉ So := fun q => (hSn _ q).2.1 rfl
            have nB : wr.heap.size ∉ So := fun q => Nat.lt_irrefl _ (hSn _ q).2.2.2
            have F0 := Within.cell (S := So) (hP2.blkP.cell 0) nP
            have G0 := Within.cell (S := So) (hB.cell 0) nB
            have G1 := Within.cell (S := So) (hB.cell 1) nB
            have G2 := Within.cell (S := So) (hB.cell 2) nB
            have G3 := Within.cell (S := So) (hB.cell 3) nB
            have G4 := Within.cell (S := So) (hB.cell 4) nB
            have G5 := Within.cell (S := So) (hB.cell 5) nB
            have G6 := Within.cell (S := So) (hB.cell 6) nB
            have G7 := Within.cell (S := So) (hB.cell 7) nB
            refine wp_region_in2 So [0, 1, 2, 5, 6] [3, 4] [9] [7, 8] [10, 11, 12] (by kernel_rfl) (by kernel_rfl) (by intro c d u a w h; cases d <;> exact h) ?_
            show wpQuiet _ _ _ _ [_, _, _, _, _] _
            repeat (go_big_quiet_step (fail))
            refine wpQuiet_nil ?_
            show wpList _ _ _ [_] _ _
            go_wp2_with fail
            refine check_of (S := So) (((Only.refl So w2).alloc _).drew) ?_
            show wpList _ _ _ [_] _ _
            have hOw : ∀ o, Only [] w2 (w2.alloc o).drew := fun o => ((Only.refl [] w2).alloc o).drew
            have hown0 := fun o => own_only hP2.own (hOw o) (by simp)
            have hnb := Blk.new w2 48 #[.int .i64 s.ev.id, .string s.ev.type, .string s.ev.data, .float .f64 s.ev.value, .string s.stream, .int .i64 s.version, .int .i64 s.position, .int .i64 s.time]
            have hnb' : Blk (w2.alloc (.cells #[.int .i64 s.ev.id, .string s.ev.type, .string s.ev.data, .float .f64 s.ev.value, .string s.stream, .int .i64 s.version, .int .i64 s.position, .int .i64 s.time] 48)).drew w2.heap.size 48 #[.int .i64 s.ev.id, .string s.ev.type, .string s.ev.data, .float .f64 s.ev.value, .string s.stream, .int .i64 s.version, .int .i64 s.position, .int .i64 s.time] := hnb
            refine wpList_append_lies rfl (.tmp 26) (.tmp 28) 45 rfl w.heap.size 48 j0 (.agg #[.int .i64 0, .string ⟨#[]⟩, .string ⟨#[]⟩, .float .f64 0, .string ⟨#[]⟩, .int .i64 0, .int .i64 0, .int .i64 0]) 8 88 Try.underlying45 hj hy0 hy1 hy2 rfl (by decide) (.slice Ap acc.length capp) acc.length _ rfl (hown0 _) ⟨w2.heap.size, 0, none⟩ 1 1 [.int .i64 s.ev.id, .string s.ev.type, .string s.ev.data, .float .f64 s.ev.value, .string s.stream, .int .i64 s.version, .int .i64 s.position, .int .i64 s.time] rfl rfl (news_blk hnb') ?c2 (by decide) ?c3 ?c4 ?c5 ?_
            case c2 => simp [Value.oneCell']
            case c3 => unfold maxLen; omega
            case c4 => omega
            case c5 => have := hP2.only.size; simp; omega
            intro g4 cap4 w4 hown4 hgrow4 hlie4 hg4
            have ho24 : Only So w2 w4 := (((Only.refl So w2).alloc _).drew).grown hgrow4 (fun g hg => .inl (by rw [hSo, hg]; simp))
            have hP4 : Blk w4 (w.heap.size + 1) 60 #[.slice Ap acc.length capp, .int .i64 nx, .bool true] := ho24.blk hP2.blkP nP
            have hR4 : Blk w4 w.heap.size 60 #[.slice none 0 0, .int .i64 0, .bool false] := ho24.blk hP2.blkR nR
            clear hgrow4 hlie4 F0 G0 G1 G2 G3 G4 G5 G6 G7 hnb hnb' hown0
            refine wpList_nil ?_
            refine check_of ho24 ?_
            show wpQuiet _ _ _ _ [_] _
            go_frame
            repeat (go_big_quiet_step (fail))
            refine wpQuiet_nil ?_
            show wpList _ _ _ [_] _ _
            go_wp2_with (go_at_call 87; refine (hKC.out _).mono ?_; rintro e w5 ⟨rfl, ho5⟩)
            refine check_of (ho24.trans ho5.of_nil) ?_
            show wpList _ _ _ [_] _ _
            go_wp2_with (go_at_call 80; refine (HNX.out _).mono ?_; rintro e w6 ⟨rfl, rfl⟩)
            refine check_of (ho24.trans ho5.of_nil) ?_
            show wpList _ _ _ [_, _, _] _ _
            have hP5 := ho5.blk hP4 (by simp)
            have e1 := fun i => hP5.cell i
            have e2 := fun i => hP5.free i
            have hOs : ∀ u v, Only [w.heap.size + 1] w5 ((w5.setCell ⟨w.heap.size + 1, 0, none⟩ u).setCell ⟨w.heap.size + 1, 1, none⟩ v) := fun u v => ((Only.refl _ w5).setCell (.inl (by simp)) u).setCell (.inl (by simp)) v
            have hNext : ∀ v, PgAt w ((w5.setCell ⟨w.heap.size + 1, 0, none⟩ (.slice (some ⟨g4, 0, none⟩) (acc.length + 1) cap4)).setCell ⟨w.heap.size + 1, 1, none⟩ (.int .i64 v)) (w.heap.size + 1) (.slice (some ⟨g4, 0, none⟩) (acc.length + 1) cap4) (acc ++ [s]) v := fun v => by
              refine ⟨(hP2.only.step (ho24.trans ho5.of_nil) (fun g hg => .inr (hSn g hg).1)).step (hOs _ _) (fun g hg => by simp at hg; right; omega), (hOs _ _).blk (ho5.blk hR4 (by simp)) (by simp), (hP5.set 0 _).set 1 _, ?_⟩
              have q := own_only (own_only hown4 ho5 (by simp)) (hOs (.slice (some ⟨g4, 0, none⟩) (acc.length + 1) cap4) (.int .i64 v)) (fun g hg => by
                cases hg
                obtain ⟨cur, hcur⟩ := own_type hown4 (g := g4) rfl
                simp
                exact hcur.other hP4 (by decide))
              rw [flat_snoc, List.length_append]
              exact q
            have HNext := Lib.hid hNext
            clear hNext
            go_wp2
            exact ⟨⟨k + 1, _, acc ++ [s], _, hlt, by simp; omega, by simp, HN, HNext.out _⟩, by simp [intOf]; omega⟩
      · have hkn : R = ⟨acc, nx, true⟩ := by
          rw [HR.out, List.drop_of_length_le (by omega)]
          rfl
        subst hkn
        have HP := Lib.hid hP
        clear hP HR hel
        go_wp2
        refine bodyPost_ret (v := .tuple #[.agg #[.slice Ap acc.length capp, .int .i64 nx, .bool true], .int .i64 0]) (by simp [results, Try.results50, go_sem, hbR]) rfl ⟨_, rfl, ?own, ?only⟩
        case own =>
          refine own_only HP.out.own (S := [w.heap.size]) ?_ (fun g hg => by simpa using (HP.out.nown g hg).1)
          iterate 3 (refine Only.setCell ?_ (.inl (by simp)) _)
          exact Only.refl _ _
        case only =>
          iterate 3 (refine Only.setCell ?_ (.inr (Nat.le_refl _)) _)
          exact HP.out.only
end Go.Proofs.Ytefkhkbkengniaa

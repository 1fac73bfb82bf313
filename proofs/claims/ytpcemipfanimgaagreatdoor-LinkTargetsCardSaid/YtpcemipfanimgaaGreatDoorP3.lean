/- Proved here: contracts of functions and plain laws, part 3 of one proof. Conditions: each theorem names its own. -/
import Derived.Test.YtpcemipfanimgaaGreatDoorP2
import Derived.RangeFuncNested
import Derived.RangeFuncBound
import Derived.RangeFuncCalls
import Derived.RangeFuncLeaves
import Derived.RangeFuncBox
import Derived.Shelf.Abstract
import Derived.Shelf.RegionOpen
import Derived.WalkKit
import Derived.OwnWalkIn
import Derived.TacticsInMore
import Derived.LoopNIn
import Derived.LoopIn
import Derived.Shelf.Small.Bits
import Derived.Shelf.Small.Strs
import Derived.Shelf.Small.Wraps
import Derived.Shelf.Strconv.Itoa0
import Derived.Shelf.Strconv.Itoa1
import Derived.Shelf.LaysM
import Derived.Shelf.Strconv.Itoa2
import Derived.Shelf.Strconv.Itoa3
import Derived.Shelf.Strconv.Clone
import Derived.Shelf.Strings.Search1
import Derived.Shelf.Strings.Search2
import Derived.Shelf.Strings.Search3
import Derived.Shelf.Strings.Cut
import Derived.Shelf.Strings.Shaped
import Derived.Shelf.Sort.Plain
import Derived.Shelf.Strings.Prefix
import Derived.Shelf.Slices.Turned
import Derived.Ground.Names2Prog
import Derived.Shelf.Slices.Clone
import Derived.Shelf.Slices.CompactS
import Derived.Shelf.Slices.Cells
import Derived.Shelf.Slices.In.SortNone
import Derived.Ground.SlgnProg
import Derived.Shelf.SlicesE.Compact
import Derived.Ground.SlgfProg
import Derived.Shelf.SlicesE.IndexFunc
import Derived.Shelf.SlicesE.DeleteFunc
import Derived.Test.YtpcemipfanimgaaGreatDoorProg
/- Contracts: pages forward. -/
set_option linter.unusedVariables false
set_option linter.unusedSimpArgs false
namespace Go.Proofs.YtpcemipfanimgaaGreatDoor
open Go.RowKit
structure PageR where
  events : List StoredR
  next : Int
  isEnd : Bool
def PageR.zero : PageR := ⟨[], 0, false⟩
def wrongP (f n : Int) : Bool := decide (f < 0) || decide (n < 1) || decide (n > 100)
def fwdGo (key : StoredR → Int) (f n : Int) : List StoredR → List StoredR → Int → PageR
  | [], acc, nx => ⟨acc, nx, true⟩
  | s :: l, acc, nx => if key s < f then fwdGo key f n l acc nx else if (acc.length : Int) = n then ⟨acc, nx, false⟩ else fwdGo key f n l (acc ++ [s]) (key s + 1)
def forwardBy (key : StoredR → Int) (l : List StoredR) (f n : Int) : PageR × Int := if wrongP f n then (PageR.zero, 1) else (fwdGo key f n l [] f, 0)
theorem fwdGo_drop (key : StoredR → Int) (f n : Int) (l : List StoredR) (k : Nat) (h : k < l.length) (acc : List StoredR) (nx : Int) :
    fwdGo key f n (l.drop k) acc nx = if key l[k] < f then fwdGo key f n (l.drop (k + 1)) acc nx else if (acc.length : Int) = n then ⟨acc, nx, false⟩ else fwdGo key f n (l.drop (k + 1)) (acc ++ [l[k]]) (key l[k] + 1) := by
  rw [List.drop_eq_getElem_cons h]
  rfl
def StoredR.val (s : StoredR) : Value := .agg #[.int .i64 s.ev.id, .string s.ev.type, .string s.ev.data, .float .f64 s.ev.value, .string s.stream, .int .i64 s.version, .int .i64 s.position, .int .i64 s.time]
set_option maxRecDepth 100000 in
theorem version_any (s : StoredR) (w : World) : Calls Tryz.prog 71 #[.agg #[.int .i64 s.ev.id, .string s.ev.type, .string s.ev.data, .float .f64 s.ev.value, .string s.stream, .int .i64 s.version, .int .i64 s.position, .int .i64 s.time]] w fun e w' => e = .returned (.int .i64 s.version) ∧ Only [] w w' := by
  go_enter Tryz.func71, Tryz.ntmps71
  go_wp2
  go_ret
  exact ⟨rfl, (Only.refl [] w).alloc _⟩
theorem vwrong_any (f n : Int) (w : World) : Calls Tryz.prog 114 #[.int .i64 f, .int .i64 n] w fun e w' => e = .returned (.bool (wrongP f n)) ∧ w = w' := by
  by_cases h1 : f < 0
  · go_enter Tryz.func114, Tryz.ntmps114
    go_wp2
    go_ret
    exact ⟨ret_b (by simp [wrongP, h1]), rfl⟩
  · by_cases h2 : n < 1
    · go_enter Tryz.func114, Tryz.ntmps114
      go_wp2
      go_ret
      exact ⟨ret_b (by simp [wrongP]; omega), rfl⟩
    · go_enter Tryz.func114, Tryz.ntmps114
      go_wp2
      go_ret
      exact ⟨ret_b (by simp [wrongP]; omega), rfl⟩
theorem vnext_any (n : Int) (hn : 0 ≤ n ∧ n ≤ 1000000000000) (w : World) : Calls Tryz.prog 115 #[.int .i64 n] w fun e w' => e = .returned (.int .i64 (n + 1)) ∧ w = w' := by
  have h1 : (n == 9223372036854775807) = false := by rw [beq_eq_false_iff_ne]; omega
  go_enter Tryz.func115, Tryz.ntmps115
  go_wp2
  go_ret
  exact ⟨rfl, rfl⟩
/-- What stands at the head of a round of a page. -/
structure PgAt (w wr : World) (pb : Nat) (pv : Value) (acc : List StoredR) (nx : Int) : Prop where
  only : Only [] w wr
  blkR : Blk wr w.heap.size 79 #[.slice none 0 0, .int .i64 0, .bool false]
  blkP : Blk wr pb 79 #[pv, .int .i64 nx, .bool true]
  own : wr.ownsRow w.heap.size 26 8 pv acc.length (acc.flatMap StoredR.cells)
theorem PgAt.only0 {w wr w' : World} {pb : Nat} {pv : Value} {acc : List StoredR} {nx : Int} (h : PgAt w wr pb pv acc nx) (k : Only [] wr w') : PgAt w w' pb pv acc nx :=
  ⟨h.only.trans k, k.blk h.blkR (by simp), k.blk h.blkP (by simp), own_only h.own k (by simp)⟩
theorem PgAt.nown {w wr : World} {pb : Nat} {pv : Value} {acc : List StoredR} {nx : Int} (h : PgAt w wr pb pv acc nx) : ∀ g, pv.ownBlock = some g → g ≠ w.heap.size ∧ g ≠ pb := fun g hg => by
  obtain ⟨cur, hcur⟩ := own_type h.own hg
  exact ⟨hcur.other h.blkR (by decide), hcur.other h.blkP (by decide)⟩
theorem flat_snoc {E : Type} (cells : E → List Value) (l : List E) (x : E) : (l ++ [x]).flatMap cells = l.flatMap cells ++ cells x := by simp
/-- What a page's call leaves. -/
def PageOut (w : World) (key : StoredR → Int) (l : List StoredR) (f n : Int) (r : PageR × Int) (e : Ending) (w' : World) : Prop :=
  ∃ pv, e = .returned (.tuple #[.agg #[pv, .int .i64 r.1.next, .bool r.1.isEnd], .int .i64 r.2]) ∧ w'.ownsRow w.heap.size 26 8 pv r.1.events.length (r.1.events.flatMap StoredR.cells) ∧ Only [] w w'
set_option maxRecDepth 100000 in
set_option maxHeartbeats 4000000 in
theorem forwardV_any {w : World} {v : Value} {l : List StoredR} {f n : Int} (hl : Slc w 8 v l.length (l.flatMap StoredR.cells)) (hb : l.length ≤ 1000000) (hk : ∀ s ∈ l, 0 ≤ StoredR.version s ∧ StoredR.version s ≤ 1000000000) :
    Calls Tryz.prog 73 #[.func (.func 71) #[] #[], v, .int .i64 f, .int .i64 n] w (PageOut w StoredR.version l f n (forwardBy StoredR.version l f n)) := by
  obtain ⟨A, cap, rfl, hnc, hcm, hel⟩ := hl.openE StoredR.cells (fun _ => rfl)
  obtain ⟨j0, hj, hy0, hy1, hy2⟩ := info_parts infoSt
  unfold maxLen at hcm
  cases hw : wrongP f n with
  | true =>
    have HW := Lib.hid hw
    have HV := Lib.hid (fun W => vwrong_any f n W)
    rw [hw] at HV
    clear hel hw
    have hR : forwardBy StoredR.version l f n = (PageR.zero, 1) := by unfold forwardBy; rw [HW.out]; rfl
    rw [hR]
    clear hR
    go_enter Tryz.func73, Tryz.ntmps73
    go_wp2_with (go_at_call 114; refine (HV.out _).mono ?_; rintro e w1 ⟨rfl, rfl⟩)
    exact bodyPost_ret (v := .tuple #[.agg #[.slice none 0 0, .int .i64 0, .bool false], .int .i64 1]) (by simp [results, Tryz.results73, go_sem]) rfl ⟨_, rfl, World.ownsRow_nil _ _ _ _, (Only.refl [] w).alloc _⟩
  | false =>
    have HW := Lib.hid hw
    have HV := Lib.hid (fun W => vwrong_any f n W)
    rw [hw] at HV
    have hn : 1 ≤ n ∧ n ≤ 100 := by simp [wrongP] at hw; omega
    clear hw
    have hR : forwardBy StoredR.version l f n = (fwdGo StoredR.version f n l [] f, 0) := by unfold forwardBy; rw [HW.out]; rfl
    rw [hR]
    clear hR
    obtain ⟨R, hR⟩ : ∃ R, R = fwdGo StoredR.version f n l [] f := ⟨_, rfl⟩
    rw [← hR]
    have HR := Lib.hid hR
    clear hR
    go_enter Tryz.func73, Tryz.ntmps73
    go_wp2_with (go_at_call 114; refine (HV.out _).mono ?_; rintro e w1 ⟨rfl, rfl⟩)
    go_loopw [21] (fun i wr => ∃ (k : Nat) (pv : Value) (acc : List StoredR) (nx : Int), k ≤ l.length ∧ acc.length ≤ k ∧ i = .int .i64 k ∧ Hid (R = fwdGo StoredR.version f n (l.drop k) acc nx) ∧ PgAt w wr (w.heap.size + 1) pv acc nx) (fun i _ => l.length - (intOf i).toNat)
    case atStart =>
      refine ⟨0, .slice none 0 0, [], f, Nat.zero_le _, Nat.le_refl _, rfl, HR, ((Only.refl [] w).alloc _).alloc _, ((Only.refl [] _).alloc _).blk (Blk.new w _ _) (by simp), ?_, World.ownsRow_nil _ _ _ _⟩
      have := Blk.new (w.alloc (.cells #[.slice none 0 0, .int .i64 0, .bool false] 79)) 79 #[.slice none 0 0, .int .i64 f, .bool true]
      simpa using this
    case round =>
      obtain ⟨k, pv, acc, nx, hkl, hak, rfl, HR, hP⟩ := hrel
      obtain ⟨Ap, capp, rfl, hap1, hap2⟩ := own_form hP.own
      have hbR := fun i => hP.blkR.cell i
      have hbRf := fun i => hP.blkR.free i
      have hbP := fun i => hP.blkP.cell i
      have hbPf := fun i => hP.blkP.free i
      by_cases hlt : k < l.length
      · obtain ⟨b, off, rfl, hbb, hcc⟩ := hel k hlt
        have hd := fwdGo_drop StoredR.version f n l k hlt acc nx
        have hks := hk _ (List.getElem_mem hlt)
        obtain ⟨s, hs⟩ : ∃ s, s = l[k] := ⟨_, rfl⟩
        rw [← hs] at hd hcc hks
        have c0 : wr.cell? ⟨b, off + k * 8, none⟩ = some (.int .i64 s.ev.id) := (hP.only.cell hbb (by simp)).trans (hcc 0 (by omega))
        have c1 : wr.cell? ⟨b, off + k * 8 + 1, none⟩ = some (.string s.ev.type) := (hP.only.cell hbb (by simp)).trans (hcc 1 (by omega))
        have c2 : wr.cell? ⟨b, off + k * 8 + 2, none⟩ = some (.string s.ev.data) := (hP.only.cell hbb (by simp)).trans (hcc 2 (by omega))
        have c3 : wr.cell? ⟨b, off + k * 8 + 3, none⟩ = some (.float .f64 s.ev.value) := (hP.only.cell hbb (by simp)).trans (hcc 3 (by omega))
        have c4 : wr.cell? ⟨b, off + k * 8 + 4, none⟩ = some (.string s.stream) := (hP.only.cell hbb (by simp)).trans (hcc 4 (by omega))
        have c5 : wr.cell? ⟨b, off + k * 8 + 5, none⟩ = some (.int .i64 s.version) := (hP.only.cell hbb (by simp)).trans (hcc 5 (by omega))
        have c6 : wr.cell? ⟨b, off + k * 8 + 6, none⟩ = some (.int .i64 s.position) := (hP.only.cell hbb (by simp)).trans (hcc 6 (by omega))
        have c7 : wr.cell? ⟨b, off + k * 8 + 7, none⟩ = some (.int .i64 s.time) := (hP.only.cell hbb (by simp)).trans (hcc 7 (by omega))
        have hKC := Lib.hid (fun W => version_any s W)
        obtain ⟨ky, hky⟩ : ∃ ky, ky = StoredR.version s := ⟨_, rfl⟩
        have HKY := Lib.hid hky
        have hsf := stF
        clear hcc
        by_cases h1 : StoredR.version s < f
        · have HN : Hid (R = fwdGo StoredR.version f n (l.drop (k + 1)) acc nx) := by
            unfold Hid
            rw [HR.out, hd, if_pos h1]
          have HP := Lib.hid hP
          clear hd hP HR hs hel
          go_wp2_with (go_at_call 71; refine (hKC.out _).mono ?_; rintro e w2 ⟨rfl, ho2⟩)
          exact ⟨⟨k + 1, _, acc, nx, hlt, by omega, by simp, HN, HP.out.only0 (((Only.refl [] _).alloc _).trans ho2)⟩, by simp [intOf]; omega⟩
        · by_cases h2 : (acc.length : Int) = n
          · have HN : R = ⟨acc, nx, false⟩ := by
              rw [HR.out, hd, if_neg h1, if_pos h2]
            have h2b : ((acc.length : Int) == n) = true := by rw [beq_iff_eq]; exact h2
            subst HN
            have HP := Lib.hid hP
            clear hd hP HR hs hel
            go_wp2_with (go_at_call 71; refine (hKC.out _).mono ?_; rintro e w2 ⟨rfl, ho2⟩
                         have hP2 := HP.out.only0 (((Only.refl [] _).alloc _).trans ho2)
                         have d1 := fun i => hP2.blkP.cell i
                         have d2 := fun i => hP2.blkP.free i
                         have d3 := fun u v i => (((Only.refl [w.heap.size + 1] w2).setCell (p := ⟨w.heap.size + 1, u, none⟩) (.inl (by simp)) v).blk hP2.blkR (by simp)).cell i
                         have d4 := fun u v i => (((Only.refl [w.heap.size + 1] w2).setCell (p := ⟨w.heap.size + 1, u, none⟩) (.inl (by simp)) v).blk hP2.blkR (by simp)).free i)
            refine bodyPost_ret (v := .tuple #[.agg #[.slice Ap acc.length capp, .int .i64 nx, .bool false], .int .i64 0]) (by simp [results, Tryz.results73, go_sem, d3]) rfl ⟨_, rfl, ?own, ?only⟩
            case own =>
              refine own_only hP2.own (S := [w.heap.size, w.heap.size + 1]) ?_ (fun g hg => by have := hP2.nown g hg; simp; omega)
              iterate 4 (refine Only.setCell ?_ (.inl (by simp)) _)
              exact Only.refl _ _
            case only =>
              iterate 4 (refine Only.setCell ?_ (.inr (by simp)) _)
              exact hP2.only
          · have h2b : ((acc.length : Int) == n) = false := by rw [beq_eq_false_iff_ne]; exact h2
            have HN : Hid (R = fwdGo StoredR.version f n (l.drop (k + 1)) (acc ++ [s]) (StoredR.version s + 1)) := by
              unfold Hid
              rw [HR.out, hd, if_neg h1, if_neg h2]
            have HNX := Lib.hid (fun W => vnext_any (StoredR.version s) ⟨by omega, by omega⟩ W)
            have hakb : acc.length + 1 ≤ 1000001 := by omega
            have HP := Lib.hid hP
            clear hd hP HR hs hel
            go_wp2_with (go_at_call 71; refine (hKC.out _).mono ?_; rintro e w2 ⟨rfl, ho2⟩
                         have hP2 := HP.out.only0 (((Only.refl [] _).alloc _).trans ho2)
                         have d1 := fun i => hP2.blkP.cell i
                         have d2 := fun i => hP2.blkP.free i
                         have hB := ho2.blk (Blk.new wr _ _) (by simp))
            have hlw : wr.heap.size < w2.heap.size := by have := ho2.size; simp at this; omega
            have hrw := HP.out.only.size
            obtain ⟨So, hSo⟩ : ∃ So, So = (Value.slice Ap acc.length capp).ownBlock.toList := ⟨_, rfl⟩
            have hSn : ∀ g ∈ So, w.heap.size ≤ g ∧ g ≠ w.heap.size ∧ g ≠ w.heap.size + 1 ∧ g < wr.heap.size := by
              intro g hg
              rw [hSo] at hg
              have hg' : (Value.slice Ap acc.length capp).ownBlock = some g := by simpa using hg
              have h3 := HP.out.nown g hg'
              have h4 := HP.out.own.lt g hg'
              exact ⟨h4.1, h3.1, h3.2, h4.2⟩
            have nP : w.heap.size + 1 ∉ So := fun q => (hSn _ q).2.2.1 rfl
            have nR : w.heap.size ∉ So := fun q => (hSn _ q).2.1 rfl
            have nB : wr.heap.size ∉ So := fun q => Nat.lt_irrefl _ (hSn _ q).2.2.2
            have F0 := Within.cell (S := So) (hP2.blkP.cell 0) nP
            have G0 := Within.cell (S := So) (hB.cell 0) nB
            have G1 := Within.cell (S := So) (hB.cell 1) nB
            have G2 := Within.cell (S := So) (hB.cell 2) nB
            have G3 := Within.cell (S := So) (hB.cell 3) nB
            have G4 := Within.cell (S := So) (hB.cell 4) nB
            have G5 := Within.cell (S := So) (hB.cell 5) nB
            have G6 := Within.cell (S := So) (hB.cell 6) nB
            have G7 := Within.cell (S := So) (hB.cell 7) nB
            refine wp_region_in2 So [0, 1, 2, 5, 6] [3, 4] [9] [7, 8] [10, 11, 12] (by kernel_rfl) (by kernel_rfl) (by intro c d u a w h; cases d <;> exact h) ?_
            show wpQuiet _ _ _ _ [_, _, _, _, _] _
            repeat (go_big_quiet_step (fail))
            refine wpQuiet_nil ?_
            show wpList _ _ _ [_] _ _
            go_wp2_with fail
            refine check_of (S := So) (((Only.refl So w2).alloc _).drew) ?_
            show wpList _ _ _ [_] _ _
            have hOw : ∀ o, Only [] w2 (w2.alloc o).drew := fun o => ((Only.refl [] w2).alloc o).drew
            have hown0 := fun o => own_only hP2.own (hOw o) (by simp)
            have hnb := Blk.new w2 26 #[.int .i64 s.ev.id, .string s.ev.type, .string s.ev.data, .float .f64 s.ev.value, .string s.stream, .int .i64 s.version, .int .i64 s.position, .int .i64 s.time]
            have hnb' : Blk (w2.alloc (.cells #[.int .i64 s.ev.id, .string s.ev.type, .string s.ev.data, .float .f64 s.ev.value, .string s.stream, .int .i64 s.version, .int .i64 s.position, .int .i64 s.time] 26)).drew w2.heap.size 26 #[.int .i64 s.ev.id, .string s.ev.type, .string s.ev.data, .float .f64 s.ev.value, .string s.stream, .int .i64 s.version, .int .i64 s.position, .int .i64 s.time] := hnb
            refine wpList_append_lies rfl (.tmp 26) (.tmp 28) 28 rfl w.heap.size 26 j0 (.agg #[.int .i64 0, .string ⟨#[]⟩, .string ⟨#[]⟩, .float .f64 0, .string ⟨#[]⟩, .int .i64 0, .int .i64 0, .int .i64 0]) 8 88 Tryz.underlying28 hj hy0 hy1 hy2 rfl (by decide) (.slice Ap acc.length capp) acc.length _ rfl (hown0 _) ⟨w2.heap.size, 0, none⟩ 1 1 [.int .i64 s.ev.id, .string s.ev.type, .string s.ev.data, .float .f64 s.ev.value, .string s.stream, .int .i64 s.version, .int .i64 s.position, .int .i64 s.time] rfl rfl (news_blk hnb') ?c2 (by decide) ?c3 ?c4 ?c5 ?_
            case c2 => simp [Value.oneCell']
            case c3 => unfold maxLen; omega
            case c4 => omega
            case c5 => have := hP2.only.size; simp; omega
            intro g4 cap4 w4 hown4 hgrow4 hlie4 hg4
            have ho24 : Only So w2 w4 := (((Only.refl So w2).alloc _).drew).grown hgrow4 (fun g hg => .inl (by rw [hSo, hg]; simp))
            have hP4 : Blk w4 (w.heap.size + 1) 79 #[.slice Ap acc.length capp, .int .i64 nx, .bool true] := ho24.blk hP2.blkP nP
            have hR4 : Blk w4 w.heap.size 79 #[.slice none 0 0, .int .i64 0, .bool false] := ho24.blk hP2.blkR nR
            clear hgrow4 hlie4 F0 G0 G1 G2 G3 G4 G5 G6 G7 hnb hnb' hown0
            refine wpList_nil ?_
            refine check_of ho24 ?_
            show wpQuiet _ _ _ _ [_] _
            go_frame
            repeat (go_big_quiet_step (fail))
            refine wpQuiet_nil ?_
            show wpList _ _ _ [_] _ _
            go_wp2_with (go_at_call 71; refine (hKC.out _).mono ?_; rintro e w5 ⟨rfl, ho5⟩)
            refine check_of (ho24.trans ho5.of_nil) ?_
            show wpList _ _ _ [_] _ _
            go_wp2_with (go_at_call 115; refine (HNX.out _).mono ?_; rintro e w6 ⟨rfl, rfl⟩)
            refine check_of (ho24.trans ho5.of_nil) ?_
            show wpList _ _ _ [_, _, _] _ _
            have hP5 := ho5.blk hP4 (by simp)
            have e1 := fun i => hP5.cell i
            have e2 := fun i => hP5.free i
            have hOs : ∀ u v, Only [w.heap.size + 1] w5 ((w5.setCell ⟨w.heap.size + 1, 0, none⟩ u).setCell ⟨w.heap.size + 1, 1, none⟩ v) := fun u v => ((Only.refl _ w5).setCell (.inl (by simp)) u).setCell (.inl (by simp)) v
            have hNext : ∀ v, PgAt w ((w5.setCell ⟨w.heap.size + 1, 0, none⟩ (.slice (some ⟨g4, 0, none⟩) (acc.length + 1) cap4)).setCell ⟨w.heap.size + 1, 1, none⟩ (.int .i64 v)) (w.heap.size + 1) (.slice (some ⟨g4, 0, none⟩) (acc.length + 1) cap4) (acc ++ [s]) v := fun v => by
              refine ⟨(hP2.only.step (ho24.trans ho5.of_nil) (fun g hg => .inr (hSn g hg).1)).step (hOs _ _) (fun g hg => by simp at hg; right; omega), (hOs _ _).blk (ho5.blk hR4 (by simp)) (by simp), (hP5.set 0 _).set 1 _, ?_⟩
              have q := own_only (own_only hown4 ho5 (by simp)) (hOs (.slice (some ⟨g4, 0, none⟩) (acc.length + 1) cap4) (.int .i64 v)) (fun g hg => by
                cases hg
                obtain ⟨cur, hcur⟩ := own_type hown4 (g := g4) rfl
                simp
                exact hcur.other hP4 (by decide))
              rw [flat_snoc, List.length_append]
              exact q
            have HNext := Lib.hid hNext
            clear hNext
            go_wp2
            exact ⟨⟨k + 1, _, acc ++ [s], _, hlt, by simp; omega, by simp, HN, HNext.out _⟩, by simp [intOf]; omega⟩
      · have hkn : R = ⟨acc, nx, true⟩ := by
          rw [HR.out, List.drop_of_length_le (by omega)]
          rfl
        subst hkn
        have HP := Lib.hid hP
        clear hP HR hel
        go_wp2
        refine bodyPost_ret (v := .tuple #[.agg #[.slice Ap acc.length capp, .int .i64 nx, .bool true], .int .i64 0]) (by simp [results, Tryz.results73, go_sem, hbR]) rfl ⟨_, rfl, ?own, ?only⟩
        case own =>
          refine own_only HP.out.own (S := [w.heap.size]) ?_ (fun g hg => by simpa using (HP.out.nown g hg).1)
          iterate 3 (refine Only.setCell ?_ (.inl (by simp)) _)
          exact Only.refl _ _
        case only =>
          iterate 3 (refine Only.setCell ?_ (.inr (Nat.le_refl _)) _)
          exact HP.out.only
end Go.Proofs.YtpcemipfanimgaaGreatDoor
/- Contracts: seen, Read. -/
set_option linter.unusedVariables false
set_option linter.unusedSimpArgs false
namespace Go.Proofs.YtpcemipfanimgaaGreatDoor
open Go.RowKit
def StoredR.zero : StoredR := ⟨⟨0, ⟨#[]⟩, ⟨#[]⟩, 0⟩, ⟨#[]⟩, 0, 0, 0⟩
def evAt (all : List StoredR) (p : Int) : StoredR := (all[p.toNat]?).getD StoredR.zero
def MS.seenL (s : MS) (n : ByteArray) : List StoredR := if (s.find n).deleted then [] else ((s.find n).places.drop (s.floorS n).toNat).map (evAt s.all)
theorem evAt_nat {all : List StoredR} {q : Nat} (h : q < all.length) : evAt all (q : Int) = all[q] := by simp [evAt, h]
section
variable {w : World} {M : List Nat} {sb mb N : Nat} {av : Value} {pf : ByteArray → Value} {s : MS}
set_option maxRecDepth 100000 in
set_option maxHeartbeats 4000000 in
theorem seenL_any (h : StAt w M sb mb av pf s) (hs : s.Ok N) (hN : N ≤ 100000) (n : ByteArray) :
    Calls Tryz.prog 72 #[.pointer (some ⟨sb, 0, none⟩), .string n] w fun e w' => ∃ pv, e = .returned pv ∧ w'.ownsRow w.heap.size 26 8 pv (s.seenL n).length ((s.seenL n).flatMap StoredR.cells) ∧ Only [] w w' := by
  obtain ⟨A, cap, hpv, hcm, hf⟩ := findv h n
  obtain ⟨A2, cap2, hav, hnc2, hcm2, hel2⟩ := h.cell
  obtain ⟨j0, hj, hy0, hy1, hy2⟩ := info_parts infoSt
  have hx := hs.xok n
  have hal := hs.all
  have hfb : 0 ≤ s.floorS n ∧ s.floorS n ≤ (s.find n).places.length := floorOf_bd s (s.find n)
  have hrd := (h.rd n).1
  rw [hpv] at hrd
  obtain ⟨_, _, e0, hnc1, _, hel⟩ := hrd.openI
  injection e0 with e1 _ e3
  subst e1 e3
  have hfl := Lib.hid (fun (W : World) (hw : Only [] w W) => floorS_any (h.only0 hw) hs hN n)
  have HF := Lib.hid hf
  have hsq : s.seenL n = if (s.find n).deleted then [] else ((s.find n).places.drop (s.floorS n).toNat).map (evAt s.all) := rfl
  have hxp := hx.pl
  have hfew := hx.few
  obtain ⟨x, hxe⟩ : ∃ x, x = s.find n := ⟨_, rfl⟩
  rw [← hxe] at HF hfb hel hnc1 hsq hxp hfew
  clear hf hpv hx hrd hxe
  unfold maxLen at hcm hcm2
  rw [hsq]
  clear hsq
  obtain ⟨fo, hfo⟩ : ∃ fo, fo = s.floorS n := ⟨_, rfl⟩
  rw [← hfo] at hfl hfb ⊢
  clear hfo
  cases hd : x.deleted with
  | true =>
    rw [hd] at HF
    simp only [if_true]
    clear hel hel2 hd
    go_enter Tryz.func72, Tryz.ntmps72
    go_wp2_with (go_at_call 46; refine (HF.out _ (Only.refl _ _)).mono ?_; rintro e w1 ⟨rfl, ho1⟩)
    go_ret
    exact ⟨_, rfl, World.ownsRow_nil _ _ _ _, ho1.alloc _⟩
  | false =>
    rw [hd] at HF
    simp only [Bool.false_eq_true, if_false]
    clear hd
    obtain ⟨fn, rfl⟩ := Int.eq_ofNat_of_zero_le hfb.1
    have hfn : fn ≤ x.places.length := by omega
    simp only [Int.toNat_natCast]
    go_enter Tryz.func72, Tryz.ntmps72
    go_wp2_with (go_at_call 46; refine (HF.out _ (Only.refl _ _)).mono ?_; rintro e w1 ⟨rfl, ho1⟩)
    have hb1 := Blk.new w1 97 #[.slice A x.places.length cap, .int .i64 x.mt.maxCount, .int .i64 x.mt.maxAge, .int .i64 x.mt.before, .int .i64 x.floor, .bool false]
    have F0 := Within.cell (S := []) (hb1.cell 0) (by simp)
    refine wp_region_in [] [0, 1, 2, 3, 7] [4, 5, 6] [] (by kernel_rfl) (by kernel_rfl) (by intro c d u a w h; cases d <;> exact h) ?_
    show wpQuiet _ _ _ _ [_, _, _, _, _] _
    repeat (go_big_quiet_step (fail))
    refine wpQuiet_nil ?_
    show wpList _ _ _ [_] _ _
    go_wp2_with (go_at_call 113; refine (hfl.out _ ((ho1.alloc _).drew)).mono ?_; rintro e w2 ⟨rfl, ho2⟩)
    refine check_of (S := []) ((Only.refl [] _).drew.trans ho2) ?_
    show wpList _ _ _ [_] _ _
    have hO2 : Only [] w w2 := ((ho1.alloc _).drew).trans ho2
    clear F0
    by_cases hlt : fn < x.places.length
    · obtain ⟨b, off, rfl, hb, hc00⟩ := hel 0 (by omega)
      have hcf : ¬ cap = fn := by omega
      have hel' : ∀ j (hj : fn + j < x.places.length), w.cell? ⟨b, off + fn + j, none⟩ = some (.int .i64 x.places[fn + j]) := fun j hj => by
        obtain ⟨_, _, q1, _, q2⟩ := hel (fn + j) hj
        cases q1
        rw [Nat.add_assoc]
        exact q2
      obtain ⟨L, hL⟩ : ∃ L, L = x.places.length - fn := ⟨_, rfl⟩
      have hLs : x.places.length = fn + L := by omega
      obtain ⟨T, hT⟩ : ∃ T : Nat → List StoredR, T = fun j => ((x.places.drop fn).take j).map (evAt s.all) := ⟨_, rfl⟩
      have hdrop : ∀ j (hj : fn + j < x.places.length), T (j + 1) = T j ++ [evAt s.all x.places[fn + j]] := fun j hj => by
        rw [hT]
        dsimp only
        rw [List.take_succ_eq_append_getElem (by simp; omega), List.map_append]
        simp
      have ht0 : T 0 = [] := by rw [hT]; rfl
      have hlen : (x.places.drop fn).map (evAt s.all) = T L ∧ (T L).length = L := by
        rw [hT]
        dsimp only
        rw [List.take_of_length_le (by simp; omega)]
        exact ⟨rfl, by simp; omega⟩
      have HDr := Lib.hid hdrop
      have HLn := Lib.hid hlen
      have HT0 := Lib.hid ht0
      have HEl := Lib.hid hel'
      have HLs := Lib.hid hLs
      have hLb : L ≤ 800000 := by omega
      have HL0 := Lib.hid hL
      clear hdrop hlen ht0 hT hel' hel hL hLs
      go_wp2_with fail
      rw [← HL0.out]
      clear hc00 hlt
      refine check_of (S := []) ((Only.refl [] _).drew.trans ho2) ?_
      show wpList _ _ _ [_] _ _
      go_wp2_with fail
      refine check_last (S := []) ((Only.refl [] _).drew.trans ho2) (fun _ _ q => q) ?_
      have c0 : w.cell? ⟨sb, 0, none⟩ = some (.slice A2 s.all.length cap2) := by rw [← hav]; exact h.blk.cell 0
      have hbb := h.blk.lt
      have C0 := Lib.hid c0
      clear c0
      go_wp2
      go_loopw [6, 21] (fun u i wr => ∃ k : Nat, k ≤ L ∧ i = .int .i64 k ∧ wr.ownsRow w.heap.size 26 8 u k ((T k).flatMap StoredR.cells) ∧ Only [] w wr) (fun _ i _ => L - (intOf i).toNat)
      case atStart => exact ⟨0, Nat.zero_le _, rfl, by rw [HT0.out]; exact World.ownsRow_nil _ _ _ _, hO2⟩
      case round =>
        obtain ⟨k, hk, rfl, hown, hO⟩ := hrel
        by_cases hkl : k < L
        · have hlt : fn + k < x.places.length := by have := HLs.out; omega
          have hc1 := HEl.out k hlt
          have ht := HDr.out k hlt
          obtain ⟨hp0, hp1⟩ := hxp _ (List.getElem_mem hlt)
          obtain ⟨q, hq⟩ := Int.eq_ofNat_of_zero_le hp0
          have hqa : q < s.all.length := by omega
          obtain ⟨b2, rfl, hb2, hc2⟩ := hel2 q hqa
          rw [hq, ← hO.cell hb (by simp)] at hc1
          rw [hq, evAt_nat hqa] at ht
          obtain ⟨z, hz⟩ : ∃ z, z = s.all[q] := ⟨_, rfl⟩
          rw [← hz] at hc2 ht
          have d0 : wr.cell? ⟨b2, q * 8, none⟩ = some (.int .i64 z.ev.id) := (hO.cell hb2 (by simp)).trans (hc2 0 (by omega))
          have d1 : wr.cell? ⟨b2, q * 8 + 1, none⟩ = some (.string z.ev.type) := (hO.cell hb2 (by simp)).trans (hc2 1 (by omega))
          have d2 : wr.cell? ⟨b2, q * 8 + 2, none⟩ = some (.string z.ev.data) := (hO.cell hb2 (by simp)).trans (hc2 2 (by omega))
          have d3 : wr.cell? ⟨b2, q * 8 + 3, none⟩ = some (.float .f64 z.ev.value) := (hO.cell hb2 (by simp)).trans (hc2 3 (by omega))
          have d4 : wr.cell? ⟨b2, q * 8 + 4, none⟩ = some (.string z.stream) := (hO.cell hb2 (by simp)).trans (hc2 4 (by omega))
          have d5 : wr.cell? ⟨b2, q * 8 + 5, none⟩ = some (.int .i64 z.version) := (hO.cell hb2 (by simp)).trans (hc2 5 (by omega))
          have d6 : wr.cell? ⟨b2, q * 8 + 6, none⟩ = some (.int .i64 z.position) := (hO.cell hb2 (by simp)).trans (hc2 6 (by omega))
          have d7 : wr.cell? ⟨b2, q * 8 + 7, none⟩ = some (.int .i64 z.time) := (hO.cell hb2 (by simp)).trans (hc2 7 (by omega))
          have c0 : wr.cell? ⟨sb, 0, none⟩ = some (.slice (some ⟨b2, 0, none⟩) s.all.length cap2) := (hO.cell hbb (by simp)).trans C0.out
          have hqi : (q : Int) < s.all.length := by omega
          have HT := Lib.hid ht
          have hsf := stF
          clear hel2 hc2 hz ht hq hlt hp0 hp1
          go_wp2_with (at_builtin; refine wpList_append_own _ rfl (.tmp 25) (.tmp 33) 28 rfl w.heap.size 26 j0 (.agg #[.int .i64 0, .string ⟨#[]⟩, .string ⟨#[]⟩, .float .f64 0, .string ⟨#[]⟩, .int .i64 0, .int .i64 0, .int .i64 0]) 8 88 Tryz.underlying28 hj hy0 hy1 hy2 rfl (by decide) _ _ _ rfl (World.ownsRow.alloc hown _) ⟨wr.heap.size, 0, none⟩ 1 1 [.int .i64 z.ev.id, .string z.ev.type, .string z.ev.data, .float .f64 z.ev.value, .string z.stream, .int .i64 z.version, .int .i64 z.position, .int .i64 z.time] rfl rfl (news_blk (Blk.new wr 26 _)) ?c2 ?c3 ?c4 ?c5 ?_)
          case c2 => simp [Value.oneCell']
          case c3 => unfold maxLen; omega
          case c4 => omega
          case c5 => have := hO.size; simp; omega
          intro v' w4 hown' hgrow _
          have hown2 : w4.ownsRow w.heap.size 26 8 v' (k + 1) ((T (k + 1)).flatMap StoredR.cells) := by
            rw [HT.out, flat_snoc]
            exact hown'
          have ho4 : Only [] w w4 := (hO.alloc _).grown hgrow (fun k hk => .inr (hown.lt k hk).1)
          have HO2 := Lib.hid hown2
          clear hgrow hown' hown2
          go_wp2
          exact ⟨⟨k + 1, hkl, by simp, HO2.out, ho4⟩, by simp [intOf]; omega⟩
        · have hkn : k = L := by omega
          have hfin : wr.ownsRow w.heap.size 26 8 u6 ((x.places.drop fn).map (evAt s.all)).length (((x.places.drop fn).map (evAt s.all)).flatMap StoredR.cells) := by
            rw [HLn.out.1, HLn.out.2]
            rw [hkn] at hown
            exact hown
          have HF2 := Lib.hid hfin
          clear hfin hkn hown
          go_wp2
          go_ret
          exact ⟨_, rfl, HF2.out, hO⟩
    · have h0 : (x.places.drop fn).map (evAt s.all) = [] := by rw [List.drop_of_length_le (by omega)]; rfl
      obtain rfl : fn = x.places.length := by omega
      have H0 := Lib.hid h0
      clear h0 hel hel2
      cases A with
      | none => 
        go_wp2_with fail
        refine check_of (S := []) ((Only.refl [] _).drew.trans ho2) ?_
        show wpList _ _ _ [_] _ _
        go_wp2_with fail
        refine check_last (S := []) ((Only.refl [] _).drew.trans ho2) (fun _ _ q => q) ?_
        go_wp2
        go_loopw [6, 21] (fun u i wr => u = .slice none 0 0 ∧ i = .int .i64 0 ∧ Only [] w wr) (fun _ _ _ => 0)
        case atStart => exact ⟨rfl, rfl, hO2⟩
        case round =>
          obtain ⟨rfl, rfl, hO⟩ := hrel
          go_wp2
          go_ret
          exact ⟨_, rfl, by rw [H0.out]; exact World.ownsRow_nil _ _ _ _, hO⟩
      | some ad =>
        by_cases hcf : cap = x.places.length
        · go_wp2_with fail
          refine check_of (S := []) ((Only.refl [] _).drew.trans ho2) ?_
          show wpList _ _ _ [_] _ _
          go_wp2_with fail
          refine check_last (S := []) ((Only.refl [] _).drew.trans ho2) (fun _ _ q => q) ?_
          go_wp2
          go_loopw [6, 21] (fun u i wr => u = .slice none 0 0 ∧ i = .int .i64 0 ∧ Only [] w wr) (fun _ _ _ => 0)
          case atStart => exact ⟨rfl, rfl, hO2⟩
          case round =>
            obtain ⟨rfl, rfl, hO⟩ := hrel
            go_wp2
            go_ret
            exact ⟨_, rfl, by rw [H0.out]; exact World.ownsRow_nil _ _ _ _, hO⟩
        · go_wp2_with fail
          refine check_of (S := []) ((Only.refl [] _).drew.trans ho2) ?_
          show wpList _ _ _ [_] _ _
          go_wp2_with fail
          refine check_last (S := []) ((Only.refl [] _).drew.trans ho2) (fun _ _ q => q) ?_
          go_wp2
          go_loopw [6, 21] (fun u i wr => u = .slice none 0 0 ∧ i = .int .i64 0 ∧ Only [] w wr) (fun _ _ _ => 0)
          case atStart => exact ⟨rfl, rfl, hO2⟩
          case round =>
            obtain ⟨rfl, rfl, hO⟩ := hrel
            go_wp2
            go_ret
            exact ⟨_, rfl, by rw [H0.out]; exact World.ownsRow_nil _ _ _ _, hO⟩
end
end Go.Proofs.YtpcemipfanimgaaGreatDoor
/- Contract: Read, forward. -/
set_option linter.unusedVariables false
set_option linter.unusedSimpArgs false
namespace Go.Proofs.YtpcemipfanimgaaGreatDoor
open Go.RowKit
def PageRet (w : World) (r : PageR × Int) (e : Ending) (w' : World) : Prop :=
  ∃ pv, e = .returned (.tuple #[.agg #[pv, .int .i64 r.1.next, .bool r.1.isEnd], .int .i64 r.2]) ∧ w'.ownsRow w.heap.size 26 8 pv r.1.events.length (r.1.events.flatMap StoredR.cells) ∧ Only [] w w'
def MS.readOk (n : ByteArray) (f k : Int) : Bool := nameOk n && decide (0 ≤ f) && decide (1 ≤ k) && decide (k ≤ 100)
def MS.readF (s : MS) (n : ByteArray) (f k : Int) : PageR × Int :=
  if MS.readOk n f k = false then (PageR.zero, 1) else if (s.find n).deleted then (PageR.zero, 23) else if (s.find n).places.length = 0 then (PageR.zero, 8) else forwardBy StoredR.version (s.seenL n) f k
section
variable {w : World} {M : List Nat} {sb mb N : Nat} {av : Value} {pf : ByteArray → Value} {s : MS}
set_option maxRecDepth 100000 in
set_option maxHeartbeats 4000000 in
theorem readF_any (h : StAt w M sb mb av pf s) (hs : s.Ok N) (hN : N ≤ 100000) (n : ByteArray) (hn : n.size ≤ maxLen) (f k : Int) (hv : ∀ e ∈ s.seenL n, 0 ≤ e.version ∧ e.version ≤ 1000000000) :
    Calls Tryz.prog 35 #[.pointer (some ⟨sb, 0, none⟩), .string n, .int .i64 f, .int .i64 k, .bool false] w (PageRet w (s.readF n f k)) := by
  obtain ⟨A, cap, hpv, hcm, hf⟩ := findv h n
  have HF := Lib.hid hf
  have HS := Lib.hid (fun W => stream_any n W hn)
  have hx := hs.xok n
  have hal := hs.all
  have hlb : (s.seenL n).length ≤ 1000000 := by
    unfold MS.seenL
    have := hx.few
    split
    · simp
    · simp; omega
  unfold maxLen at hcm
  have hfew := hx.few
  clear hf hpv hx
  cases hok : MS.readOk n f k with
  | false =>
    have hR : s.readF n f k = (PageR.zero, 1) := by unfold MS.readF; rw [if_pos hok]
    rw [hR]
    clear hR
    cases hnm : nameOk n with
    | false =>
      rw [hnm] at HS
      clear hok hnm
      go_enter Tryz.func35, Tryz.ntmps35
      go_wp2_with (go_at_call 69; refine (HS.out _).mono ?_; rintro e w' ⟨rfl, rfl⟩)
      exact bodyPost_ret (v := .tuple #[.agg #[.slice none 0 0, .int .i64 0, .bool false], .int .i64 1]) (by simp [results, Tryz.results35, go_sem]) rfl ⟨_, rfl, World.ownsRow_nil _ _ _ _, (Only.refl [] w).alloc _⟩
    | true =>
      rw [hnm] at HS
      simp only [MS.readOk, hnm, Bool.true_and, Bool.and_eq_false_iff, decide_eq_false_iff_not] at hok
      clear hnm
      by_cases h1 : f < 0
      · clear hok
        go_enter Tryz.func35, Tryz.ntmps35
        go_wp2_with (go_at_call 69; refine (HS.out _).mono ?_; rintro e w' ⟨rfl, rfl⟩)
        exact bodyPost_ret (v := .tuple #[.agg #[.slice none 0 0, .int .i64 0, .bool false], .int .i64 1]) (by simp [results, Tryz.results35, go_sem]) rfl ⟨_, rfl, World.ownsRow_nil _ _ _ _, (Only.refl [] w).alloc _⟩
      · by_cases h2 : k < 1
        · clear hok
          go_enter Tryz.func35, Tryz.ntmps35
          go_wp2_with (go_at_call 69; refine (HS.out _).mono ?_; rintro e w' ⟨rfl, rfl⟩)
          exact bodyPost_ret (v := .tuple #[.agg #[.slice none 0 0, .int .i64 0, .bool false], .int .i64 1]) (by simp [results, Tryz.results35, go_sem]) rfl ⟨_, rfl, World.ownsRow_nil _ _ _ _, (Only.refl [] w).alloc _⟩
        · have h3 : k > 100 := by omega
          clear hok
          go_enter Tryz.func35, Tryz.ntmps35
          go_wp2_with (go_at_call 69; refine (HS.out _).mono ?_; rintro e w' ⟨rfl, rfl⟩)
          exact bodyPost_ret (v := .tuple #[.agg #[.slice none 0 0, .int .i64 0, .bool false], .int .i64 1]) (by simp [results, Tryz.results35, go_sem]) rfl ⟨_, rfl, World.ownsRow_nil _ _ _ _, (Only.refl [] w).alloc _⟩
  | true =>
    simp only [MS.readOk, Bool.and_eq_true, decide_eq_true_eq] at hok
    obtain ⟨⟨⟨hnm, h1⟩, h2⟩, h3⟩ := hok
    rw [hnm] at HS
    have hok : MS.readOk n f k = true := by simp [MS.readOk, hnm, h1, h2, h3]
    cases hd : (s.find n).deleted with
    | true =>
      have hR : s.readF n f k = (PageR.zero, 23) := by unfold MS.readF; rw [if_neg (by rw [hok]; decide), if_pos hd]
      rw [hR]
      rw [hd] at HF
      clear hR hok hnm hd
      go_enter Tryz.func35, Tryz.ntmps35
      go_wp2_with (first
        | (go_at_call 69; refine (HS.out _).mono ?_; rintro e w' ⟨rfl, rfl⟩)
        | (go_at_call 46; refine (HF.out _ ((Only.refl _ _).alloc _)).mono ?_; rintro e w1 ⟨rfl, ho1⟩
           have hf1 := fun o i => (((Only.refl [] w1).alloc o).blk (ho1.blk (Blk.new w 79 _) (by simp)) (by simp)).free i
           have hc1 := fun o i => (((Only.refl [] w1).alloc o).blk (ho1.blk (Blk.new w 79 _) (by simp)) (by simp)).cell i))
      refine bodyPost_ret (v := .tuple #[.agg #[.slice none 0 0, .int .i64 0, .bool false], .int .i64 23]) (by simp [results, Tryz.results35, go_sem, hc1]) rfl ⟨_, rfl, World.ownsRow_nil _ _ _ _, ?hw⟩
      case hw =>
        iterate 3 (refine Only.setCell ?_ (.inr (Nat.le_refl _)) _)
        exact (((Only.refl [] w).alloc _).trans ho1).alloc _
    | false =>
      rw [hd] at HF
      by_cases h0 : (s.find n).places.length = 0
      · have hR : s.readF n f k = (PageR.zero, 8) := by unfold MS.readF; rw [if_neg (by rw [hok]; decide), if_neg (by rw [hd]; decide), if_pos h0]
        rw [hR]
        rw [h0] at HF
        clear hR hok hnm hd h0
        go_enter Tryz.func35, Tryz.ntmps35
        go_wp2_with (first
          | (go_at_call 69; refine (HS.out _).mono ?_; rintro e w' ⟨rfl, rfl⟩)
          | (go_at_call 46; refine (HF.out _ ((Only.refl _ _).alloc _)).mono ?_; rintro e w1 ⟨rfl, ho1⟩
             have hf1 := fun o i => (((Only.refl [] w1).alloc o).blk (ho1.blk (Blk.new w 79 _) (by simp)) (by simp)).free i
             have hc1 := fun o i => (((Only.refl [] w1).alloc o).blk (ho1.blk (Blk.new w 79 _) (by simp)) (by simp)).cell i))
        refine bodyPost_ret (v := .tuple #[.agg #[.slice none 0 0, .int .i64 0, .bool false], .int .i64 8]) (by simp [results, Tryz.results35, go_sem, hc1]) rfl ⟨_, rfl, World.ownsRow_nil _ _ _ _, ?hw⟩
        case hw =>
          iterate 3 (refine Only.setCell ?_ (.inr (Nat.le_refl _)) _)
          exact (((Only.refl [] w).alloc _).trans ho1).alloc _
      · have hR : s.readF n f k = forwardBy StoredR.version (s.seenL n) f k := by unfold MS.readF; rw [if_neg (by rw [hok]; decide), if_neg (by rw [hd]; decide), if_neg h0]
        rw [hR]
        have h0b : (((s.find n).places.length : Int) == 0) = false := by rw [beq_eq_false_iff_ne]; omega
        have HSn := Lib.hid (fun (W : World) (hw : Only [] w W) => seenL_any (h.only0 hw) hs hN n)
        have HFw := Lib.hid (fun (W : World) (v : Value) (hl : Slc W 8 v (s.seenL n).length ((s.seenL n).flatMap StoredR.cells)) => forwardV_any (f := f) (n := k) hl hlb hv)
        obtain ⟨r, hr⟩ : ∃ r, r = forwardBy StoredR.version (s.seenL n) f k := ⟨_, rfl⟩
        rw [← hr] at HFw ⊢
        obtain ⟨⟨revs, rnx, rend⟩, rerr⟩ := r
        clear hR hok hnm hd h0 hlb hv hr
        go_enter Tryz.func35, Tryz.ntmps35
        go_wp2_with (first
          | (go_at_call 69; refine (HS.out _).mono ?_; rintro e w' ⟨rfl, rfl⟩)
          | (go_at_call 46; refine (HF.out _ ((Only.refl _ _).alloc _)).mono ?_; rintro e w1 ⟨rfl, ho1⟩)
          | (go_at_call 72; refine (HSn.out _ ((((Only.refl _ _).alloc _).trans ho1).alloc _)).mono ?_; rintro e w2 ⟨v2, rfl, hown2, ho2⟩)
          | (go_at_call 73; refine (HFw.out _ _ (Slc.of_own hown2).1).mono ?_; rintro e w3 ⟨v3, rfl, hown3, ho3⟩; obtain ⟨A3, cap3, rfl, _, _⟩ := own_form hown3
             have hp := ho3.blk (ho2.blk (((Only.refl [] w1).alloc _).blk (ho1.blk (Blk.new w 79 _) (by simp)) (by simp)) (by simp)) (by simp)
             have hpc := fun i => hp.cell i
             have hpf := fun i => hp.free i))
        have hsz : w.heap.size < w2.heap.size := by have q1 := ho1.size; have q2 := ho2.size; simp at q1 q2; omega
        refine bodyPost_ret (v := .tuple #[.agg #[.slice A3 revs.length cap3, .int .i64 rnx, .bool rend], .int .i64 rerr]) (by simp [results, Tryz.results35, go_sem, hpc]) rfl ⟨_, rfl, ?own, ?hw⟩
        case own =>
          refine own_only (own_base hown3 (by omega)) (S := [w.heap.size]) ?_ (fun g hg => by have := (hown3.lt g hg).1; simp; omega)
          iterate 3 (refine Only.setCell ?_ (.inl (by simp)) _)
          exact Only.refl _ _
        case hw =>
          iterate 3 (refine Only.setCell ?_ (.inr (Nat.le_refl _)) _)
          exact (((((Only.refl [] w).alloc _).trans ho1).alloc _).trans ho2).trans ho3
end
end Go.Proofs.YtpcemipfanimgaaGreatDoor
/- What holds of every state that commands made. -/
set_option linter.unusedVariables false
set_option linter.unusedSimpArgs false
namespace Go.Proofs.YtpcemipfanimgaaGreatDoor
open Go.RowKit
structure MS.Inv (s : MS) : Prop where
  pos : ∀ i (h : i < s.all.length), s.all[i].position = i
  plc : ∀ n k (h : k < (s.find n).places.length), ∃ p : Nat, ∃ hp : p < s.all.length, (s.find n).places[k] = p ∧ s.all[p].stream = n ∧ s.all[p].version = k
  ver : ∀ i (h : i < s.all.length), ∃ k : Nat, s.all[i].version = k ∧ (s.find s.all[i].stream).places[k]? = some (i : Int)
theorem find_put (s : MS) (n m : ByteArray) (x : StreamR) : (s.put n x).find m = if n = m then x else s.find m := by
  unfold MS.put MS.find
  dsimp only
  rw [aget_aput]
  split <;> rfl
theorem find_m {s t : MS} (h : s.m = t.m) (n : ByteArray) : s.find n = t.find n := by unfold MS.find; rw [h]
theorem storedOf_get (stream : ByteArray) (now : Int) : ∀ (l : List EventR) (v at_ : Int) (i : Nat) (h : i < l.length), (storedOf stream now l v at_)[i]? = some (stOne stream now l[i] (v + i) (at_ + i))
  | [], _, _, _, h => absurd h (Nat.not_lt_zero _)
  | e :: l, v, at_, 0, _ => by simp [storedOf, stOne]
  | e :: l, v, at_, i + 1, h => by
    have := storedOf_get stream now l (v + 1) (at_ + 1) i (by simpa using h)
    simp only [storedOf, List.getElem?_cons_succ, List.getElem_cons_succ]
    rw [this]
    simp only [stOne, Option.some.injEq, StoredR.mk.injEq, true_and, and_true]
    constructor <;> omega
theorem rangeFrom_get : ∀ (k : Nat) (a : Int) (i : Nat), i < k → (rangeFrom k a)[i]? = some (a + i)
  | 0, _, _, h => absurd h (Nat.not_lt_zero _)
  | k + 1, a, 0, _ => by simp [rangeFrom]
  | k + 1, a, i + 1, h => by
    simp only [rangeFrom, List.getElem?_cons_succ]
    rw [rangeFrom_get k (a + 1) i (by omega)]
    congr 1
    omega
/-- What act may do to the stream's places and to all events. -/
theorem act_places (s : MS) (c : Cmd) (x : StreamR) : (s.act c x).2.2.m = s.m ∧
    ((s.act c x).2.1.places = x.places ∧ (s.act c x).2.2.all = s.all ∨
      (s.act c x).2.1.places = x.places ++ rangeFrom c.events.length s.all.length ∧ (s.act c x).2.2.all = s.all ++ storedOf c.stream s.now c.events x.places.length s.all.length) := by
  unfold MS.act
  dsimp only
  split
  · exact ⟨rfl, .inl ⟨rfl, rfl⟩⟩
  split
  · split <;> exact ⟨rfl, .inl ⟨rfl, rfl⟩⟩
  split
  · exact ⟨rfl, .inl ⟨rfl, rfl⟩⟩
  split
  · exact ⟨rfl, .inr ⟨rfl, rfl⟩⟩
  · exact ⟨rfl, .inl ⟨rfl, rfl⟩⟩
/-- What Do leaves, in the shape that all proofs use: nothing turned but time and count; or the stream kept, its places as they were; or events behind. -/
theorem do_shape (s : MS) (c : Cmd) : ((s.do c).2.m = s.m ∧ (s.do c).2.all = s.all) ∨
    ∃ y : StreamR, (s.do c).2.m = aput s.m c.stream y ∧ (y.places = (s.find c.stream).places ∧ (s.do c).2.all = s.all ∨
      y.places = (s.find c.stream).places ++ rangeFrom c.events.length s.all.length ∧ (s.do c).2.all = s.all ++ storedOf c.stream (max s.now c.time) c.events (s.find c.stream).places.length s.all.length) := by
  unfold MS.do
  split
  · exact .inl ⟨rfl, rfl⟩
  dsimp only
  split
  · exact .inl ⟨rfl, rfl⟩
  split
  · exact .inl ⟨rfl, rfl⟩
  · right
    obtain ⟨h1, h2⟩ := act_places (s.tick c.time) c { (s.tick c.time).find c.stream with floor := (s.tick c.time).floorOf ((s.tick c.time).find c.stream) }
    generalize hr : (s.tick c.time).act c { (s.tick c.time).find c.stream with floor := (s.tick c.time).floorOf ((s.tick c.time).find c.stream) } = r at h1 h2
    refine ⟨{ r.2.1 with floor := r.2.2.floorOf r.2.1 }, ?_, ?_⟩
    · show aput r.2.2.m _ _ = _
      rw [h1]
      rfl
    · exact h2
theorem inv_new : MS.new.Inv := ⟨fun i h => absurd h (Nat.not_lt_zero _), fun n k h => absurd h (Nat.not_lt_zero _), fun i h => absurd h (Nat.not_lt_zero _)⟩
theorem MS.Inv.same {s t : MS} (h : s.Inv) (hm : ∀ n, (t.find n).places = (s.find n).places) (ha : t.all = s.all) : t.Inv := by
  refine ⟨fun i hi => ?_, fun n k hk => ?_, fun i hi => ?_⟩
  · simp only [ha] at hi ⊢
    exact h.pos i hi
  · simp only [hm, ha] at hk ⊢
    exact h.plc n k hk
  · simp only [ha] at hi ⊢
    rw [hm]
    exact h.ver i hi
theorem inv_do {s : MS} (h : s.Inv) (c : Cmd) : (s.do c).2.Inv := by
  rcases do_shape s c with ⟨h1, h2⟩ | ⟨y, h1, ⟨h2, h3⟩ | ⟨h2, h3⟩⟩
  · exact h.same (fun n => by rw [find_m h1]) h2
  · refine h.same (fun n => ?_) h3
    have e : (s.do c).2.find n = (s.put c.stream y).find n := find_m h1 n
    rw [e, find_put]
    split
    · rename_i q; subst q; exact h2
    · rfl
  · have hfi : ∀ n, ((s.do c).2.find n).places = if c.stream = n then y.places else (s.find n).places := fun n => by
      have e : (s.do c).2.find n = (s.put c.stream y).find n := find_m h1 n
      rw [e, find_put]
      split <;> rfl
    generalize (s.do c).2 = t at *
    obtain ⟨x, hx⟩ : ∃ x, x = s.find c.stream := ⟨_, rfl⟩
    rw [← hx] at h2 h3
    have hpre : ∀ i, i < s.all.length → t.all[i]? = s.all[i]? := fun i hi => by rw [h3, List.getElem?_append_left hi]
    have hsuf : ∀ i (hi : i < c.events.length), t.all[s.all.length + i]? = some (stOne c.stream (max s.now c.time) c.events[i] (x.places.length + i) (s.all.length + i)) := fun i hi => by
      rw [h3, List.getElem?_append_right (by omega), show s.all.length + i - s.all.length = i by omega]
      exact storedOf_get _ _ _ _ _ i hi
    have hlen : t.all.length = s.all.length + c.events.length := by rw [h3, List.length_append, storedOf_len]
    refine ⟨fun i hi => ?_, fun n k hk => ?_, fun i hi => ?_⟩
    · by_cases q : i < s.all.length
      · have e := hpre i q
        rw [List.getElem?_eq_getElem hi, List.getElem?_eq_getElem q] at e
        injection e with e
        rw [e]
        exact h.pos i q
      · have e := hsuf (i - s.all.length) (by omega)
        rw [show s.all.length + (i - s.all.length) = i by omega, List.getElem?_eq_getElem hi] at e
        injection e with e
        rw [e]
        simp only [stOne]
        omega
    · by_cases hn : c.stream = n
      · subst hn
        have hp := hfi c.stream
        rw [if_pos rfl, h2] at hp
        by_cases q : k < x.places.length
        · obtain ⟨p, hp1, hp2, hp3, hp4⟩ := h.plc c.stream k (by rw [← hx]; exact q)
          have e := hpre p hp1
          rw [List.getElem?_eq_getElem (by omega), List.getElem?_eq_getElem hp1] at e
          injection e with e
          refine ⟨p, by omega, ?_, by rw [e]; exact hp3, by rw [e]; exact hp4⟩
          simp only [hp]
          rw [List.getElem_append_left q]
          simpa [hx] using hp2
        · have hk' : k < x.places.length + c.events.length := by
            rw [hp, List.length_append, rangeFrom_len] at hk
            exact hk
          have e := hsuf (k - x.places.length) (by omega)
          have hlt : s.all.length + (k - x.places.length) < t.all.length := by omega
          rw [List.getElem?_eq_getElem hlt] at e
          injection e with e
          refine ⟨s.all.length + (k - x.places.length), hlt, ?_, by rw [e]; rfl, by rw [e]; simp only [stOne]; omega⟩
          have e2 : (t.find c.stream).places[k]? = some ((s.all.length : Int) + ((k - x.places.length : Nat) : Int)) := by
            rw [hp, List.getElem?_append_right (by omega)]
            exact rangeFrom_get _ _ _ (by omega)
          rw [List.getElem?_eq_getElem hk] at e2
          injection e2
      · have hp := hfi n
        rw [if_neg hn] at hp
        obtain ⟨p, hp1, hp2, hp3, hp4⟩ := h.plc n k (by rw [← hp]; exact hk)
        have e := hpre p hp1
        rw [List.getElem?_eq_getElem (by omega), List.getElem?_eq_getElem hp1] at e
        injection e with e
        refine ⟨p, by omega, ?_, by rw [e]; exact hp3, by rw [e]; exact hp4⟩
        simp only [hp]
        exact hp2
    · by_cases q : i < s.all.length
      · have e := hpre i q
        rw [List.getElem?_eq_getElem hi, List.getElem?_eq_getElem q] at e
        injection e with e
        obtain ⟨k, hk1, hk2⟩ := h.ver i q
        refine ⟨k, by rw [e]; exact hk1, ?_⟩
        rw [e, hfi]
        split
        · rename_i hn
          rw [← hn, ← hx] at hk2
          rw [h2, List.getElem?_append_left (List.getElem?_eq_some_iff.1 hk2).1]
          exact hk2
        · exact hk2
      · have e := hsuf (i - s.all.length) (by omega)
        rw [show s.all.length + (i - s.all.length) = i by omega, List.getElem?_eq_getElem hi] at e
        injection e with e
        refine ⟨x.places.length + (i - s.all.length), by rw [e]; simp only [stOne]; omega, ?_⟩
        rw [e, hfi]
        rw [if_pos (by rfl), h2, List.getElem?_append_right (by omega), rangeFrom_get _ _ _ (by omega)]
        congr 1
        omega
theorem MS.Inv.evAt {s : MS} (h : s.Inv) {n : ByteArray} {e : StoredR} (he : e ∈ (s.find n).places.map (evAt s.all)) : ∃ k p : Nat, ∃ hp : p < s.all.length, e = s.all[p] ∧ k < (s.find n).places.length ∧ e.stream = n ∧ e.version = k ∧ e.position = p := by
  obtain ⟨q, hq, rfl⟩ := List.mem_map.1 he
  obtain ⟨k, hk, rfl⟩ := List.mem_iff_getElem.1 hq
  obtain ⟨p, hp, h1, h2, h3⟩ := h.plc n k hk
  rw [h1, evAt_nat hp]
  exact ⟨k, p, hp, rfl, hk, h2, h3, h.pos p hp⟩
theorem seenL_sub (s : MS) (n : ByteArray) : ∀ e ∈ s.seenL n, e ∈ (s.find n).places.map (evAt s.all) := by
  intro e he
  unfold MS.seenL at he
  split at he
  · cases he
  · obtain ⟨q, hq, rfl⟩ := List.mem_map.1 he
    exact List.mem_map.2 ⟨q, List.mem_of_mem_drop hq, rfl⟩
theorem seenL_vers {s : MS} {N : Nat} (h : s.Inv) (hs : s.Ok N) (hN : N ≤ 100000) (n : ByteArray) : ∀ e ∈ s.seenL n, 0 ≤ e.version ∧ e.version ≤ 1000000000 := by
  intro e he
  obtain ⟨k, p, hp, _, hk, _, hv, _⟩ := h.evAt (seenL_sub s n e he)
  have := (hs.xok n).few
  have := hs.all
  omega
end Go.Proofs.YtpcemipfanimgaaGreatDoor
/- Regions that draw their order: plans of many parts, and invariants over all orders; what a call keeps. No program is named. -/
set_option linter.unusedVariables false
set_option linter.unusedSimpArgs false
namespace Go.Proofs.YtpcemipfanimgaaGreatDoor
open Go Go.RowKit Go.Sort
/-! ## what a call keeps: the blocks below a, and those of R -/
structure Keeps (a : World) (R : List Nat) (w w' : World) : Prop where
  ex : ∃ S, Only S w w' ∧ ∀ g ∈ S, a.heap.size ≤ g ∧ g ∉ R
section
variable {a w w' w'' : World} {R R' : List Nat}
theorem Keeps.of0 (h : Only [] w w') : Keeps a R w w' := ⟨[], h, by simp⟩
theorem Keeps.refl (a : World) (R : List Nat) (w : World) : Keeps a R w w := .of0 (Only.refl _ _)
theorem Keeps.trans (h : Keeps a R w w') (k : Keeps a R w' w'') : Keeps a R w w'' := by
  obtain ⟨S, h1, h2⟩ := h
  obtain ⟨T, k1, k2⟩ := k
  refine ⟨S ++ T, (h1.mono (fun g hg => List.mem_append_left _ hg)).trans (k1.mono (fun g hg => List.mem_append_right _ hg)), fun g hg => ?_⟩
  rcases List.mem_append.1 hg with q | q
  · exact h2 g q
  · exact k2 g q
theorem Keeps.then0 (h : Keeps a R w w') (k : Only [] w' w'') : Keeps a R w w'' := h.trans (.of0 k)
theorem Keeps.alloc (h : Keeps a R w w') (o : Obj) : Keeps a R w (w'.alloc o) := h.then0 ((Only.refl _ _).alloc o)
theorem Keeps.drew (h : Keeps a R w w') : Keeps a R w w'.drew := h.then0 (Only.refl _ _).drew
theorem Keeps.setCell (h : Keeps a R w w') {p : Addr} (hp : a.heap.size ≤ p.block ∧ p.block ∉ R) (u : Value) : Keeps a R w (w'.setCell p u) :=
  h.trans ⟨[p.block], (Only.refl _ _).setCell (.inl (by simp)) u, by simpa using hp⟩
theorem Keeps.less (h : Keeps a R w w') (hr : ∀ g ∈ R', g ∈ R) : Keeps a R' w w' := by
  obtain ⟨S, h1, h2⟩ := h
  exact ⟨S, h1, fun g hg => ⟨(h2 g hg).1, fun q => (h2 g hg).2 (hr g q)⟩⟩
theorem Keeps.size (h : Keeps a R w w') : w.heap.size ≤ w'.heap.size := by
  obtain ⟨S, h1, _⟩ := h
  exact h1.size
theorem Keeps.block (h : Keeps a R w w') {g : Nat} (hl : g < w.heap.size) (hg : g < a.heap.size ∨ g ∈ R) : w'.heap[g]? = w.heap[g]? := by
  obtain ⟨S, h1, h2⟩ := h
  refine h1.block g hl fun q => ?_
  have := h2 g q
  rcases hg with hg | hg
  · omega
  · exact this.2 hg
theorem Keeps.blk (h : Keeps a R w w') {g : Nat} {t : TypeId} {cs : Array Value} (hb : Blk w g t cs) (hg : g < a.heap.size ∨ g ∈ R) : Blk w' g t cs := hb.of_eq (h.block hb.lt hg)
theorem Keeps.cell (h : Keeps a R w w') {p : Addr} (hl : p.block < w.heap.size) (hg : p.block < a.heap.size ∨ p.block ∈ R) : w'.cell? p = w.cell? p := World.cell?_of_block (h.block hl hg)
theorem Keeps.slc (h : Keeps a R w w') {size n : Nat} {v : Value} {cs : List Value} (hs : Slc w size v n cs) (hg : ∀ g, v.ownBlock = some g → g < a.heap.size ∨ g ∈ R) : Slc w' size v n cs :=
  hs.keep h.size fun g h1 h2 => h.block h2 (hg g h1)
theorem Keeps.own (h : Keeps a R w w') {base size n : Nat} {e : TypeId} {v : Value} {xs : List Value} (hs : w.ownsRow base e size v n xs) (hg : ∀ g, v.ownBlock = some g → g < a.heap.size ∨ g ∈ R) : w'.ownsRow base e size v n xs := by
  obtain ⟨h1, h2⟩ := hs
  rcases h2 with ⟨rfl, rfl⟩ | ⟨g, cap, cur, rfl, hb, hg', q⟩
  · exact ⟨h1, .inl ⟨rfl, rfl⟩⟩
  · exact ⟨h1, .inr ⟨g, cap, cur, rfl, hb, (h.block (lt_of_block hg') (hg g rfl)).trans hg', q⟩⟩
theorem Keeps.only (h : Keeps a R w w') (ha : Only [] a w) : Only [] a w' := by
  obtain ⟨S, h1, h2⟩ := h
  exact ha.step h1 (fun g hg => .inr (h2 g hg).1)
/-- A world that a call may leave. -/
structure Kept (a : World) (R : List Nat) (w : World) where
  W : World
  h : Keeps a R w W
instance (a : World) (R : List Nat) (w : World) : Nonempty (Kept a R w) := ⟨⟨w, Keeps.refl a R w⟩⟩
theorem Kept.cell {x : Addr} {v : Value} (hc : w.cell? x = some v) (hn : x.block < a.heap.size ∨ x.block ∈ R) (p : Kept a R w) : p.W.cell? x = some v := (p.h.cell (block_lt_of_cell hc) hn).trans hc
end
/-! ## plans of many parts -/
section
variable {P : Program} {md : Region.Mode} {C : World → Prop} {Q : Exit → Act → World → Prop} {l : List Oper}
def stagesTo (md : Region.Mode) (ops : Array Oper) (S : Array Bool → Bool) : List (List Nat × List Nat) → Array Bool → Bool
  | [], listed => S listed
  | (H, A) :: r, listed => headTo md ops (seqTo md ops (stagesTo md ops S r) A) H listed
def wpStages (P : Program) (l : List Oper) (C : World → Prop) (Q : Exit → Act → World → Prop) (K : Act → World → Prop) : List (List Nat × List Nat) → Act → World → Prop
  | [] => K
  | (H, A) :: r => fun a w => wpQuiet P l.toArray C (fun a' => wpT1 P l.toArray C Q (opsAt l A) (wpStages P l C Q K r) a' w) (opsAt l H) a
def stLen : List (List Nat × List Nat) → Nat → Nat
  | [], n => n
  | (H, A) :: r, n => H.length + (A.length + stLen r n)
theorem plan_stages {H T1 : List Nat} {n : Nat} {S : Array Bool → Bool} {K : Act → World → Prop} (hsel : Region.noSelect l.toArray = true) (hQ : ∀ c d u a w, Q (.panic c) (Act.put a d u) w → Q (.panic c) a w)
    (hK : ∀ listed a w, S listed = true → K a w → AnyP P md l.toArray C Q H T1 n listed a w) :
    ∀ (st : List (List Nat × List Nat)) (listed : Array Bool) (a : Act) (w : World), (∀ p ∈ st, (∀ h ∈ p.1, h ∈ H ∧ plainAt l.toArray h = true) ∧ ∀ t ∈ p.2, t ∉ H) → stagesTo md l.toArray S st listed = true → wpStages P l C Q K st a w →
      AnyP P md l.toArray C Q H T1 (stLen st n) listed a w
  | [], listed, a, w, _, hs, h => hK listed a w hs h
  | (H1, A) :: r, listed, a, w, hd, hs, h =>
    plan_Hn (S := seqTo md l.toArray (stagesTo md l.toArray S r) A) hsel hQ
      (fun listed a hs h => plan_A (S := stagesTo md l.toArray S r) (fun listed a w hs h => plan_stages hsel hQ hK r listed a w (fun p hp => hd p (by simp [hp])) hs h) A listed a w (hd (H1, A) (by simp)).2 hs h)
      H1 listed a (hd (H1, A) (by simp)).1 hs h
def stOrder : List (List Nat × List Nat) → List Nat
  | [] => []
  | (H, A) :: r => H ++ (A ++ stOrder r)
def planS (md : Region.Mode) (ops : Array Oper) (st : List (List Nat × List Nat)) (T2 : List Nat) : Bool :=
  (Region.noSelect ops && ((st.flatMap (·.1)).all (plainAt ops) && (st.flatMap (·.2)).all (fun i => !(st.flatMap (·.1)).contains i))) &&
    (((List.range ops.size).all (fun i => (st.flatMap (·.1)).contains i || ((st.flatMap (·.2)).contains i || T2.contains i)) && T2.all (fun i => !(st.flatMap (·.1)).contains i && !(st.flatMap (·.2)).contains i)) &&
      ((st.flatMap (·.1)).all (fun i => (stOrder st).contains i) && (decide (stLen st T2.length = ops.size) && (behindB md ops (stOrder st) T2 && stagesTo md ops (seqL md ops T2) st (Array.replicate ops.size false)))))
theorem wp_region_stages {id : Nat} {a : Act} {w : World} (st : List (List Nat × List Nat)) (T2 : List Nat) (hm : P.follows .mixedOrders = true) (hB : planS .any l.toArray st T2 = true) (hQ : ∀ c d u a w, Q (.panic c) (Act.put a d u) w → Q (.panic c) a w) (hC : C w.drew)
    (h : wpStages P l C Q (fun a w => wpList P l.toArray Q (opsAt l T2) a w) st a w.drew) : (Code.region id l.toArray true).wp P Q a w := by
  simp only [planS, Bool.and_eq_true, decide_eq_true_eq, List.all_eq_true, Bool.or_eq_true, List.contains_iff_mem, Bool.not_eq_true'] at hB
  obtain ⟨⟨hsel, hpl, hd1⟩, ⟨hcov, hd2⟩, hz, hlen, hbe, hst⟩ := hB
  refine wp_region_any hm ?_
  have inv0 : Closed .any l.toArray (Array.replicate l.toArray.size false) := fun j oj _ hl => by rw [getD_replicate_false] at hl; cases hl
  have no : ∀ {L : List Nat} {t : Nat}, L.contains t = false → t ∉ L := fun {L t} h q => by rw [List.contains_eq_mem, decide_eq_true q] at h; cases h
  have := plan_stages (C := C) (md := .any) (H := st.flatMap (·.1)) (T1 := st.flatMap (·.2)) (S := seqL .any l.toArray T2) hsel hQ
    (fun listed a w hs h => plan_T2 T2 listed a w (fun t ht => ⟨no (hd2 t ht).1, no (hd2 t ht).2⟩) hs h) st _ a w.drew
    (fun p hp => ⟨fun x hx => ⟨List.mem_flatMap.2 ⟨p, hp, hx⟩, hpl x (List.mem_flatMap.2 ⟨p, hp, hx⟩)⟩, fun t ht => no (hd1 t (List.mem_flatMap.2 ⟨p, hp, ht⟩))⟩) hst h
  rw [hlen] at this
  exact anyP_anyZ hbe (fun x hx => hz x hx) (fun i hi => by
    rcases hcov i (List.mem_range.2 hi) with q | q | q
    · exact .inl q
    · exact .inr (.inl q)
    · exact .inr (.inr q)) _ _ _ _ inv0 (.inl hC) this
/-! ## an invariant over all orders -/
def reachB (md : Region.Mode) (ops : Array Oper) (T : List Nat) : Nat → Array Bool → Bool
  | 0, listed => (Region.ready md ops listed).isEmpty && T.all fun t => listed.getD t false
  | f + 1, listed => !(Region.ready md ops listed).isEmpty && (Region.ready md ops listed).all fun i => reachB md ops T f (listed.setIfInBounds i true)
def listedOf (n : Nat) (H : List Nat) : Array Bool := H.foldl (fun a i => a.setIfInBounds i true) (Array.replicate n false)
def planI (md : Region.Mode) (ops : Array Oper) (H T : List Nat) : Bool :=
  (Region.noSelect ops && H.all (plainAt ops)) && (((List.range ops.size).all (fun i => H.contains i || T.contains i) && T.all (fun i => !H.contains i)) &&
    (decide (H.length + T.length = ops.size) && headTo md ops (fun listed => decide (listed = listedOf ops.size H) && reachB md ops T T.length listed) H (Array.replicate ops.size false)))
theorem flag_set {listed : Array Bool} {i : Nat} (h : listed.getD i true = false) (j : Nat) : (listed.setIfInBounds i true).getD j false = (decide (i = j) || listed.getD j false) := by
  have hi : i < listed.size := by
    rcases Nat.lt_or_ge i listed.size with q | q
    · exact q
    · simp [Array.getElem?_eq_none q] at h
  by_cases e : i = j
  · subst e
    simp [hi]
  · simp [e, Array.getElem?_setIfInBounds_ne e]
theorem plan_inv {H T : List Nat} {Inv : Array Bool → Act → World → Prop} (hcov : ∀ i, i < l.length → i ∈ H ∨ i ∈ T) (hd : ∀ t ∈ T, t ∉ H)
    (hstep : ∀ i ∈ T, ∀ listed a w, i ∈ Region.ready md l.toArray listed → Inv listed a w → wpList P l.toArray (CheckQ C Q (Inv (listed.setIfInBounds i true))) (opsAt l [i]) a w)
    (hend : ∀ listed a w, Inv listed a w → (∀ t ∈ T, listed.getD t false = true) → Q .normal a w) :
    ∀ (n : Nat) (listed : Array Bool) (a : Act) (w : World), (∀ h ∈ H, listed.getD h false = true) → reachB md l.toArray T n listed = true → Inv listed a w → AnyP P md l.toArray C Q H T n listed a w
  | 0, listed, a, w, _, hr, h => by
    simp only [reachB, Bool.and_eq_true, List.all_eq_true] at hr
    exact ⟨by simpa using hr.1, hend listed a w h hr.2⟩
  | n + 1, listed, a, w, hH, hr, h => by
    simp only [reachB, Bool.and_eq_true, List.all_eq_true, Bool.not_eq_true'] at hr
    refine ⟨fun q => by rw [q] at hr; simp at hr, fun i hi => ?_⟩
    obtain ⟨hun, o, ho, _⟩ := mem_ready.1 hi
    have ho' : l[i]? = some o := by simpa using ho
    have hiH : i ∉ H := fun q => by
      have := hH i q
      rw [getD_both hun] at this
      cases this
    have hlt : i < l.length := (List.getElem?_eq_some_iff.1 ho').1
    have hiT : i ∈ T := (hcov i hlt).resolve_left hiH
    refine .inr ⟨hiH, ?_⟩
    have hs := hstep i hiT listed a w hi h
    rw [opsAt_cons ho'] at hs
    have hw := wpOp_check (i := i) ho hs
    exact wpOp_mono (fun a' w' h' => ⟨fun _ => h'.1, plan_inv hcov hd hstep hend n _ a' w' (fun x hx => getD_set_true (hH x hx)) (hr.2 i hi) h'.2⟩) hw
theorem listedOf_true {H : List Nat} (hpl : ∀ x ∈ H, plainAt l.toArray x = true) : ∀ h ∈ H, (listedOf l.toArray.size H).getD h false = true := by
  have step : ∀ (L : List Nat) (A : Array Bool) (h : Nat), A.size = l.toArray.size → (h ∈ L ∧ h < l.toArray.size ∨ A.getD h false = true) → (L.foldl (fun a i => a.setIfInBounds i true) A).getD h false = true := by
    intro L
    induction L with
    | nil => intro A h _ q; rcases q with ⟨q, _⟩ | q; cases q; exact q
    | cons x L ih =>
      intro A h hs q
      refine ih _ h (by simpa using hs) ?_
      rcases q with ⟨q, hlt⟩ | q
      · rcases List.mem_cons.1 q with rfl | q
        · right
          simp [hs ▸ hlt]
        · exact .inl ⟨q, hlt⟩
      · exact .inr (getD_set_true q)
  intro h hh
  refine step H _ h (by simp) (.inl ⟨hh, ?_⟩)
  have := hpl h hh
  unfold plainAt at this
  split at this
  · rename_i o ho
    exact (Array.getElem?_eq_some_iff.1 ho).1
  · cases this
/-- The invariant is chosen behind the reads. -/
def InvGo (P : Program) (l : List Oper) (C : World → Prop) (Q : Exit → Act → World → Prop) (H T : List Nat) (a0 : Act) (w0 : World) : Prop :=
  ∃ Inv : Array Bool → Act → World → Prop, Inv (listedOf l.toArray.size H) a0 w0 ∧
    (∀ i ∈ T, ∀ listed a w, i ∈ Region.ready .any l.toArray listed → Inv listed a w → wpList P l.toArray (CheckQ C Q (Inv (listed.setIfInBounds i true))) (opsAt l [i]) a w) ∧
    ∀ listed a w, Inv listed a w → (∀ t ∈ T, listed.getD t false = true) → Q .normal a w
theorem inv_intro {H T : List Nat} {a0 : Act} {w0 : World} (I : Act → Array Bool → Act → World → Prop) (h0 : I a0 (listedOf l.toArray.size H) a0 w0)
    (hstep : ∀ i ∈ T, ∀ listed a w, i ∈ Region.ready .any l.toArray listed → I a0 listed a w → wpList P l.toArray (CheckQ C Q (I a0 (listed.setIfInBounds i true))) (opsAt l [i]) a w)
    (hend : ∀ listed a w, I a0 listed a w → (∀ t ∈ T, listed.getD t false = true) → Q .normal a w) : InvGo P l C Q H T a0 w0 := ⟨I a0, h0, hstep, hend⟩
theorem wp_region_inv2 {id : Nat} {a : Act} {w : World} (H T : List Nat) (hm : P.follows .mixedOrders = true) (hB : planI .any l.toArray H T = true) (hQ : ∀ c d u a w, Q (.panic c) (Act.put a d u) w → Q (.panic c) a w) (hC : C w.drew)
    (h : wpQuiet P l.toArray C (fun a' => InvGo P l C Q H T a' w.drew) (opsAt l H) a) : (Code.region id l.toArray true).wp P Q a w := by
  simp only [planI, Bool.and_eq_true, decide_eq_true_eq, List.all_eq_true, Bool.or_eq_true, List.contains_iff_mem, Bool.not_eq_true'] at hB
  obtain ⟨⟨hsel, hpl⟩, ⟨hcov, hd1⟩, hlen, hhd⟩ := hB
  refine wp_region_any hm ?_
  have inv0 : Closed .any l.toArray (Array.replicate l.toArray.size false) := fun j oj _ hl => by rw [getD_replicate_false] at hl; cases hl
  have no : ∀ {L : List Nat} {t : Nat}, L.contains t = false → t ∉ L := fun {L t} h q => by rw [List.contains_eq_mem, decide_eq_true q] at h; cases h
  have hl0 := listedOf_true (l := l) hpl
  have := plan_Hn (C := C) (md := .any) (H := H) (T1 := T) (n := T.length) (S := fun listed => decide (listed = listedOf l.toArray.size H) && reachB .any l.toArray T T.length listed) (L := fun a' => InvGo P l C Q H T a' w.drew) (w := w.drew) hsel hQ
    (fun listed a hs h => by
      simp only [Bool.and_eq_true, decide_eq_true_eq] at hs
      obtain ⟨rfl, hs⟩ := hs
      obtain ⟨Inv, h0, hstep, hend⟩ := h
      exact plan_inv (C := C) (fun i hi => hcov i (by simpa using hi)) (fun t ht => no (hd1 t ht)) hstep hend T.length _ a w.drew hl0 hs h0) H _ a (fun h hh => ⟨hh, hpl h hh⟩) hhd h
  rw [hlen] at this
  exact anyP_any (T2 := []) rfl (fun i hi => by
    rcases hcov i (List.mem_range.2 hi) with q | q
    · exact .inl q
    · exact .inr (.inl q)) _ _ _ _ inv0 (.inl hC) this
/-- What a ready operation tells of the flags. -/
theorem ready_dep {listed : Array Bool} {i : Nat} (hr : i ∈ Region.ready md l.toArray listed) (j : Nat) (hw : Region.waitsFor md l.toArray i j = true) : listed.getD j false = true := by
  obtain ⟨oj, hoj, e, he, hb, hon⟩ := Region.waitsFor_spec hw
  obtain ⟨_, o', ho', hall⟩ := mem_ready.1 hr
  have : o' = oj := Option.some.inj (ho'.symm.trans hoj)
  subst this
  rw [← hon]; exact hall e he hb
theorem ready_self {listed : Array Bool} {i : Nat} (hr : i ∈ Region.ready md l.toArray listed) : listed.getD i false = false ∧ listed.getD i true = false := ⟨getD_both (mem_ready.1 hr).1, (mem_ready.1 hr).1⟩
/-- Behind an early operation: the class Kept. -/
theorem check_kept {a0 : World} {R : List Nat} {w w' : World} {K : Act → World → Prop} {a : Act} (hO : Keeps a0 R w w') (h : K a w') : CheckQ (fun W => ∃ p : Kept a0 R w, W = p.W) Q K .normal a w' := ⟨⟨⟨w', hO⟩, rfl⟩, h⟩
end
end Go.Proofs.YtpcemipfanimgaaGreatDoor
/- A state as the laws see it: above a world that stays, beside blocks that are kept; the contracts in that form. -/
set_option linter.unusedVariables false
set_option linter.unusedSimpArgs false
namespace Go.Proofs.YtpcemipfanimgaaGreatDoor
open Go.RowKit
/-- Above the world a, which stays; R: blocks of the caller's own that may turn by his hand; E: blocks that only are read. -/
structure HasS (a w : World) (R E : List Nat) (sb mb : Nat) (s : MS) (N : Nat) : Prop where
  only : Only [] a w
  st : ∃ M av pf, StAt w M sb mb av pf s ∧ (∀ g ∈ M, a.heap.size ≤ g ∧ g ∉ E) ∧ (∀ g ∈ R, g ∈ M) ∧ ∀ g ∈ hM sb mb av, g ∉ R
  el : ∀ g ∈ E, g < w.heap.size
  ok : s.Ok N
  inv : s.Inv
section
variable {a w w' : World} {R R' E E' : List Nat} {sb mb N : Nat} {s : MS}
theorem HasS.rl (h : HasS a w R E sb mb s N) : ∀ g ∈ R, a.heap.size ≤ g ∧ g < w.heap.size ∧ g ∉ E := by
  obtain ⟨M, av, pf, q1, q2, q3, q4⟩ := h.st
  exact fun g hg => ⟨(q2 g (q3 g hg)).1, q1.mlt g (q3 g hg), (q2 g (q3 g hg)).2⟩
theorem HasS.keep (h : HasS a w R E sb mb s N) (k : Only [] w w') : HasS a w' R E sb mb s N := by
  obtain ⟨M, av, pf, h1, h2⟩ := h.st
  exact ⟨h.only.trans k, ⟨M, av, pf, h1.only0 k, h2⟩, fun g hg => Nat.lt_of_lt_of_le (h.el g hg) k.size, h.ok, h.inv⟩
theorem StAt.fresh {M : List Nat} {av : Value} {pf : ByteArray → Value} (h : StAt w M sb mb av pf s) (k : Only [] w w') {g : Nat} (h1 : w.heap.size ≤ g) (h2 : g < w'.heap.size) : StAt w' (g :: M) sb mb av pf s := by
  have h' := h.only0 k
  exact ⟨h'.blk, h'.own, h'.map, fun n x hx => ((h.pl n x hx).ext (M' := g :: M) (fun i hi => by simp at hi; rcases hi with rfl | hi; exact .inr h1; exact .inl hi)).only0 k,
    ⟨List.mem_cons_of_mem _ h.inM.1, List.mem_cons_of_mem _ h.inM.2.1, fun i hi => List.mem_cons_of_mem _ (h.inM.2.2 i hi)⟩,
    fun i hi => by simp at hi; rcases hi with rfl | hi; exact h2; exact h'.mlt i hi⟩
/-- One more block of one's own. -/
theorem HasS.addR (h : HasS a w R E sb mb s N) (k : Only [] w w') {g : Nat} (h1 : w.heap.size ≤ g) (h2 : g < w'.heap.size) : HasS a w' (g :: R) E sb mb s N := by
  obtain ⟨M, av, pf, q1, q2, q3, q4⟩ := h.st
  refine ⟨h.only.trans k, ⟨g :: M, av, pf, q1.fresh k h1 h2, fun i hi => ?_, fun i hi => ?_, fun i hi q => ?_⟩, fun g hg => Nat.lt_of_lt_of_le (h.el g hg) k.size, h.ok, h.inv⟩
  · rcases List.mem_cons.1 hi with rfl | hi
    · refine ⟨Nat.le_trans h.only.size h1, fun q => ?_⟩
      have := h.el i q
      omega
    · exact q2 i hi
  · rcases List.mem_cons.1 hi with rfl | hi
    · simp
    · exact List.mem_cons_of_mem _ (q3 i hi)
  · rcases List.mem_cons.1 q with rfl | q
    · have := q1.lt i hi
      omega
    · exact q4 i hi q
/-- One more block that is only read. -/
theorem HasS.addE (h : HasS a w R E sb mb s N) (k : Only [] w w') {g : Nat} (h1 : w.heap.size ≤ g) (h2 : g < w'.heap.size) : HasS a w' R (g :: E) sb mb s N := by
  obtain ⟨M, av, pf, q1, q2, q3, q4⟩ := h.st
  refine ⟨h.only.trans k, ⟨M, av, pf, q1.only0 k, fun i hi => ⟨(q2 i hi).1, fun q => ?_⟩, q3, q4⟩, fun i hi => ?_, h.ok, h.inv⟩
  · rcases List.mem_cons.1 q with rfl | q
    · have := q1.mlt i hi
      omega
    · exact (q2 i hi).2 q
  · rcases List.mem_cons.1 hi with rfl | hi
    · exact h2
    · exact Nat.lt_of_lt_of_le (h.el i hi) k.size
theorem HasS.boxR (h : HasS a w R E sb mb s N) (o : Obj) : HasS a (w.alloc o) (w.heap.size :: R) E sb mb s N := h.addR ((Only.refl _ _).alloc o) (Nat.le_refl _) (by simp)
theorem HasS.boxE (h : HasS a w R E sb mb s N) (o : Obj) : HasS a (w.alloc o) R (w.heap.size :: E) sb mb s N := h.addE ((Only.refl _ _).alloc o) (Nat.le_refl _) (by simp)
theorem HasS.ownR (h : HasS a w R E sb mb s N) (k : Only [] w w') {e : TypeId} {size n : Nat} {v : Value} {xs : List Value} (ho : w'.ownsRow w.heap.size e size v n xs) : HasS a w' (v.ownBlock.toList ++ R) E sb mb s N := by
  cases hv : v.ownBlock with
  | none => simpa [hv] using h.keep k
  | some g =>
    have := ho.lt g hv
    simpa [hv] using h.addR k this.1 this.2
theorem HasS.less (h : HasS a w R E sb mb s N) (hr : ∀ g ∈ R', g ∈ R) (he : ∀ g ∈ E', g ∈ E) : HasS a w R' E' sb mb s N := by
  obtain ⟨M, av, pf, q1, q2, q3, q4⟩ := h.st
  exact ⟨h.only, ⟨M, av, pf, q1, fun g hg => ⟨(q2 g hg).1, fun q => (q2 g hg).2 (he g q)⟩, fun g hg => q3 g (hr g hg), fun g hg q => q4 g hg (hr g q)⟩, fun g hg => h.el g (he g hg), h.ok, h.inv⟩
/-- Blocks of one's own turn: the state stays. -/
theorem HasS.turn {S : List Nat} (h : HasS a w R E sb mb s N) (k : Only S w w') (hS : ∀ g ∈ S, g ∈ R) : HasS a w' R E sb mb s N := by
  obtain ⟨M, av, pf, q1, q2, q3, q4⟩ := h.st
  exact ⟨h.only.step k (fun g hg => .inr (q2 g (q3 g (hS g hg))).1), ⟨M, av, pf, q1.only k (fun g hg => q3 g (hS g hg)) (fun g hg q => q4 g hg (hS g q)), q2, q3, q4⟩, fun g hg => Nat.lt_of_lt_of_le (h.el g hg) k.size, h.ok, h.inv⟩
theorem HasS.setCell (h : HasS a w R E sb mb s N) {p : Addr} (hp : p.block ∈ R) (u : Value) : HasS a (w.setCell p u) R E sb mb s N := h.turn (S := [p.block]) ((Only.refl _ w).setCell (.inl (by simp)) u) (by simpa using hp)
theorem HasS.more (h : HasS a w R E sb mb s N) {N' : Nat} (hn : N ≤ N') : HasS a w R E sb mb s N' := ⟨h.only, h.st, h.el, h.ok.more hn, h.inv⟩
theorem has_newS (a w : World) (ha : Only [] a w) (E : List Nat) (hE : ∀ g ∈ E, g < w.heap.size) : Calls Tryz.prog 14 #[] w fun e w' => e = .returned (.pointer (some ⟨w.heap.size + 1, 0, none⟩)) ∧ HasS a w' [] E (w.heap.size + 1) w.heap.size MS.new 0 ∧ Only [] w w' :=
  (newS_any w (fun _ => .slice none 0 0)).mono fun e w' ⟨h1, h2, h3⟩ => ⟨h1, ⟨ha.trans h3, ⟨_, _, _, h2, fun g hg => by
    have := ha.size
    simp at hg
    refine ⟨by omega, fun q => ?_⟩
    have := hE g q
    omega, fun g hg => (by cases hg), fun g hg q => (by cases q)⟩, fun g hg => Nat.lt_of_lt_of_le (hE g hg) h3.size, MS.new_ok, inv_new⟩, h3⟩
/-- A command's events, where they lie. -/
def EvIn (a w : World) (E : List Nat) (ev : Value) (l : List EventR) : Prop := Slc w 4 ev l.length (l.flatMap EventR.cells) ∧ ∀ g, ev.ownBlock = some g → (g < a.heap.size ∨ g ∈ E) ∨ l.length = 0
theorem has_do {c : Cmd} {ev : Value} (h : HasS a w R E sb mb s N) (hN : N ≤ 100000) (hc : CmdOk c) (he : EvIn a w E ev c.events) :
    Calls Tryz.prog 15 #[.pointer (some ⟨sb, 0, none⟩), c.val ev] w fun e w' => e = .returned (s.do c).1.val ∧ HasS a w' R E sb mb (s.do c).2 (N + 1) ∧ Keeps a (R ++ E) w w' := by
  obtain ⟨M, av, pf, h1, h2, h3, h4⟩ := h.st
  have hrd : Rd M w 4 ev c.events.length (c.events.flatMap EventR.cells) := ⟨he.1, fun g hg => by
    rcases he.2 g hg with (q | q) | q
    · exact .inl ⟨fun q2 => by have := (h2 g q2).1; omega, Nat.lt_of_lt_of_le q h.only.size⟩
    · exact .inl ⟨fun q2 => (h2 g q2).2 q, h.el g q⟩
    · exact .inr q⟩
  refine (do_any h1 h.ok hN hc hrd).mono fun e w' ⟨q1, M', av', pf', q2, q3, q4, q5, q6⟩ => ⟨q1, ?_, ⟨_, q3, fun g hg => ⟨(h2 g (h1.hMM g hg)).1, fun q => ?_⟩⟩⟩
  · refine ⟨h.only.step q3 (fun g hg => .inr (h2 g (h1.hMM g hg)).1), ⟨M', av', pf', q2, fun g hg => ?_, fun g hg => q4 g (h3 g hg), fun g hg q => ?_⟩, fun g hg => Nat.lt_of_lt_of_le (h.el g hg) q3.size, MS.do_ok h.ok c, inv_do h.inv c⟩
    · rcases q5 g hg with q | q
      · exact h2 g q
      · refine ⟨Nat.le_trans h.only.size q, fun q7 => ?_⟩
        have := h.el g q7
        omega
    · simp only [hM, List.mem_cons, Option.mem_toList] at hg
      rcases hg with rfl | rfl | hg
      · exact h4 _ (by simp [hM]) q
      · exact h4 _ (by simp [hM]) q
      · rcases q6 g hg with q7 | q7
        · exact h4 g (by simp [hM, q7]) q
        · have := h1.mlt g (h3 g q)
          omega
  · rcases List.mem_append.1 q with q | q
    · exact h4 g hg q
    · exact (h2 g (h1.hMM g hg)).2 q
theorem has_len (h : HasS a w R E sb mb s N) : Calls Tryz.prog 112 #[.pointer (some ⟨sb, 0, none⟩)] w fun e w' => e = .returned (.int .i64 s.all.length) ∧ w = w' := by
  obtain ⟨M, av, pf, h1, h2⟩ := h.st
  exact lenS_any h1
theorem has_count (h : HasS a w R E sb mb s N) (n : ByteArray) : Calls Tryz.prog 53 #[.pointer (some ⟨sb, 0, none⟩), .string n] w fun e w' => e = .returned (.int .i64 (s.find n).places.length) ∧ Only [] w w' := by
  obtain ⟨M, av, pf, h1, h2⟩ := h.st
  exact countS_any h1 n
theorem has_deleted (h : HasS a w R E sb mb s N) (n : ByteArray) : Calls Tryz.prog 51 #[.pointer (some ⟨sb, 0, none⟩), .string n] w fun e w' => e = .returned (.bool (s.find n).deleted) ∧ Only [] w w' := by
  obtain ⟨M, av, pf, h1, h2⟩ := h.st
  exact deletedS_any h1 n
theorem has_floor (h : HasS a w R E sb mb s N) (hN : N ≤ 100000) (n : ByteArray) : Calls Tryz.prog 113 #[.pointer (some ⟨sb, 0, none⟩), .string n] w fun e w' => e = .returned (.int .i64 (s.floorS n)) ∧ Only [] w w' := by
  obtain ⟨M, av, pf, h1, h2⟩ := h.st
  exact floorS_any h1 h.ok hN n
theorem has_read (h : HasS a w R E sb mb s N) (hN : N ≤ 100000) (n : ByteArray) (hn : n.size ≤ maxLen) (f k : Int) : Calls Tryz.prog 35 #[.pointer (some ⟨sb, 0, none⟩), .string n, .int .i64 f, .int .i64 k, .bool false] w (PageRet w (s.readF n f k)) := by
  obtain ⟨M, av, pf, h1, h2⟩ := h.st
  exact readF_any h1 h.ok hN n hn f k (seenL_vers h.inv h.ok hN n)
end
end Go.Proofs.YtpcemipfanimgaaGreatDoor
/- slices.Backward over stored events: its iterator, for every loop body that keeps what lay below n₀. -/
set_option linter.unusedVariables false
set_option linter.unusedSimpArgs false
namespace Go.Proofs.YtpcemipfanimgaaGreatDoor
open Go Go.RowKit Go.Shelf Go.Proofs
attribute [local go_sem] Oper.semAt_some
/-- An event of the list, and its place. -/
structure BkE (l : List StoredR) where
  i : Int
  x : StoredR
  mem : x ∈ l
def bkV {l : List StoredR} (e : BkE l) : Array Value := #[.int .i64 e.i, .agg #[.int .i64 e.x.ev.id, .string e.x.ev.type, .string e.x.ev.data, .float .f64 e.x.ev.value, .string e.x.stream, .int .i64 e.x.version, .int .i64 e.x.position, .int .i64 e.x.time]]
theorem bk_step {l : List StoredR} {k : Nat} (hk : k < l.length) {pre : List (BkE l)} (h : pre.map (·.x) = (l.drop (l.length - k)).reverse) (hm : l[l.length - k - 1] ∈ l) :
    (pre ++ [(⟨((l.length - k - 1 : Nat) : Int), l[l.length - k - 1], hm⟩ : BkE l)]).map (·.x) = (l.drop (l.length - (k + 1))).reverse := by
  have e : l.length - (k + 1) = l.length - k - 1 := by omega
  rw [List.map_append, h, e, List.drop_eq_getElem_cons (i := l.length - k - 1) (by omega), List.reverse_cons]
  have e2 : l.length - k - 1 + 1 = l.length - k := by omega
  rw [e2]
  rfl
set_option maxRecDepth 100000 in
set_option maxHeartbeats 2000000 in
theorem bk1_in (F : Fence) (n : Nat) (h8 : F.fn 108) (hro : F.round = none) (hn : 1 ≤ n) (ly Bs n₀ b off cap : Nat) (l : List StoredR) (hreach : l.length ≤ 1000000) (hb : b < n₀) (J Jx : List (BkE l) → World → Prop)
    (hY : ∀ pre x W, J pre W → pre.length < l.length → YieldAt F (n - 1) Tryz.prog ly (bkV x) W fun e W' =>
      (e = .returned (.bool true) ∧ J (pre ++ [x]) W' ∧ Below n₀ W W') ∨ (e = .returned (.bool false) ∧ Jx (pre ++ [x]) W'))
    (W : World) (hBl : Bs < n₀) (hBs : W.cell? ⟨Bs, 0, none⟩ = some (.slice (some ⟨b, off, none⟩) l.length cap))
    (hc : ∀ j (hj : j < l.length), ∀ r, r < 8 → W.cell? ⟨b, off + j * 8 + r, none⟩ = (l[j].cells)[r]?) (h0 : J [] W) :
    CallsIn F n Tryz.prog 108 #[.func (.yield ly) #[] #[], .pointer (some ⟨Bs, 0, none⟩)] W fun e W' => (∃ v, e = .returned v) ∧
      ((∃ ys, ys.map (·.x) = l.reverse ∧ J ys W') ∨ (∃ pre, pre.map (·.x) <+: l.reverse ∧ Jx pre W')) := by
  refine callsIn_of_wp Tryz.func108 rfl h8 ?_ hro
  simp only [Tryz.ntmps108, List.size_toArray, List.length_cons, List.length_nil, Nat.reduceAdd, Nat.reduceSub, Array.replicate_succ, Array.replicate_zero, List.push_toArray, List.append_toArray, List.nil_append, List.cons_append]
  have hbd : ∀ k, k < l.length → l.length - k - 1 < l.length := fun k h => by omega
  have e0 := IntWalk.i64_in ((l.length : Int) - 1) ⟨by omega, by omega⟩
  gi_wp2
  gi_loopw [3] (fun i wr => ∃ (k : Nat) (pre : List (BkE l)), k ≤ l.length ∧ i = .int .i64 ((l.length : Int) - k - 1) ∧ pre.length = k ∧ pre.map (·.x) = (l.drop (l.length - k)).reverse ∧ J pre wr ∧ Below n₀ W wr)
    (fun i _ => (intOf i + 1).toNat)
  case atStart => exact ⟨0, [], Nat.zero_le _, by simp, rfl, by simp, h0, Below.refl _ _⟩
  case round =>
    obtain ⟨k, pre, hk, rfl, hpl, hpm, hJs, hnx⟩ := hrel
    have hbx : wr.cell? ⟨Bs, 0, none⟩ = some (.slice (some ⟨b, off, none⟩) l.length cap) := (hnx.cell (p := ⟨Bs, 0, none⟩) hBl).trans hBs
    by_cases hlt : k < l.length
    · have hm : l[l.length - k - 1]'(hbd k hlt) ∈ l := List.getElem_mem (hbd k hlt)
      have hst := bk_step hlt hpm hm
      obtain ⟨fn, tmps, assign, body, hy, hR⟩ := hY pre ⟨((l.length - k - 1 : Nat) : Int), l[l.length - k - 1]'(hbd k hlt), hm⟩ wr hJs (by omega)
      have hcc := hc (l.length - k - 1) (hbd k hlt)
      obtain ⟨j, hj⟩ : ∃ j, j = l.length - k - 1 := ⟨_, rfl⟩
      have hjl : j < l.length := by omega
      have hi : (l.length : Int) - k - 1 = (j : Int) := by omega
      obtain ⟨s, hs⟩ : ∃ s, s = l[l.length - k - 1]'(hbd k hlt) := ⟨_, rfl⟩
      rw [← hs] at hcc
      unfold bkV at hy
      dsimp only at hy
      rw [← hs] at hy
      rw [← hj] at hy hcc
      rw [hi]
      have c0 : wr.cell? ⟨b, off + j * 8, none⟩ = some (.int .i64 s.ev.id) := (hnx.cell (p := ⟨b, off + j * 8, none⟩) hb).trans (hcc 0 (by omega))
      have c1 : wr.cell? ⟨b, off + j * 8 + 1, none⟩ = some (.string s.ev.type) := (hnx.cell (p := ⟨b, off + j * 8 + 1, none⟩) hb).trans (hcc 1 (by omega))
      have c2 : wr.cell? ⟨b, off + j * 8 + 2, none⟩ = some (.string s.ev.data) := (hnx.cell (p := ⟨b, off + j * 8 + 2, none⟩) hb).trans (hcc 2 (by omega))
      have c3 : wr.cell? ⟨b, off + j * 8 + 3, none⟩ = some (.float .f64 s.ev.value) := (hnx.cell (p := ⟨b, off + j * 8 + 3, none⟩) hb).trans (hcc 3 (by omega))
      have c4 : wr.cell? ⟨b, off + j * 8 + 4, none⟩ = some (.string s.stream) := (hnx.cell (p := ⟨b, off + j * 8 + 4, none⟩) hb).trans (hcc 4 (by omega))
      have c5 : wr.cell? ⟨b, off + j * 8 + 5, none⟩ = some (.int .i64 s.version) := (hnx.cell (p := ⟨b, off + j * 8 + 5, none⟩) hb).trans (hcc 5 (by omega))
      have c6 : wr.cell? ⟨b, off + j * 8 + 6, none⟩ = some (.int .i64 s.position) := (hnx.cell (p := ⟨b, off + j * 8 + 6, none⟩) hb).trans (hcc 6 (by omega))
      have c7 : wr.cell? ⟨b, off + j * 8 + 7, none⟩ = some (.int .i64 s.time) := (hnx.cell (p := ⟨b, off + j * 8 + 7, none⟩) hb).trans (hcc 7 (by omega))
      have hsf := stF
      have e1 := IntWalk.i64_in ((j : Int) - 1) ⟨by omega, by omega⟩
      have HST := Lib.hid hst
      have HPL := Lib.hid hpl
      have HR := Lib.hid hR
      have hjk : (j : Int) - 1 = (l.length : Int) - ((k + 1 : Nat) : Int) - 1 := by omega
      have HJK := Lib.hid hjk
      clear hst hpm hcc hs hpl hi hR hjk hj
      gi_wp2
      refine HR.out.mono ?_
      rintro e W3 (⟨rfl, hJ3, hk3⟩ | ⟨rfl, hJx3⟩)
      · gi_wp2
        go_roundw
        case rel => exact ⟨k + 1, _, hlt, by rw [← HJK.out], by rw [List.length_append, HPL.out]; rfl, HST.out, hJ3, hnx.trans hk3⟩
        case measure => simp [intOf]
      · gi_wp2
        refine bodyPost_ret (results_none rfl _ _ _) rfl ?_
        exact ⟨⟨_, rfl⟩, .inr ⟨_, by rw [HST.out]; exact List.reverse_prefix.2 (List.drop_suffix _ _), hJx3⟩⟩
    · have hkl : k = l.length := by omega
      have hi : (l.length : Int) - k - 1 = -1 := by omega
      rw [hi]
      have hfin : pre.map (·.x) = l.reverse := by rw [hpm, hkl, Nat.sub_self]; rfl
      clear hpm hi hkl
      gi_wp2
      go_end0
      exact ⟨⟨_, rfl⟩, .inl ⟨_, hfin, hJs⟩⟩
set_option maxRecDepth 100000 in
theorem bk1_nil_in (F : Fence) (n : Nat) (h8 : F.fn 108) (hro : F.round = none) (ly Bs cap : Nat) (A : Option Addr) (l : List StoredR) (J : List (BkE l) → World → Prop) (W : World) (hBs : W.cell? ⟨Bs, 0, none⟩ = some (.slice A 0 cap)) (h0 : J [] W) :
    CallsIn F n Tryz.prog 108 #[.func (.yield ly) #[] #[], .pointer (some ⟨Bs, 0, none⟩)] W fun e W' => (∃ v, e = .returned v) ∧ J [] W' := by
  refine callsIn_of_wp Tryz.func108 rfl h8 ?_ hro
  simp only [Tryz.ntmps108, List.size_toArray, List.length_cons, List.length_nil, Nat.reduceAdd, Nat.reduceSub, Array.replicate_succ, Array.replicate_zero, List.push_toArray, List.append_toArray, List.nil_append, List.cons_append]
  gi_wp2
  gi_loopw [3] (fun i wr => i = .int .i64 (-1) ∧ J [] wr) (fun _ _ => 0)
  case atStart => exact ⟨rfl, h0⟩
  case round =>
    obtain ⟨rfl, hJs⟩ := hrel
    gi_wp2
    go_end0
    exact ⟨⟨_, rfl⟩, hJs⟩
set_option maxRecDepth 100000 in
theorem back_in (F : Fence) (n : Nat) (h5 : F.fn 57) (hro : F.round = none) (A : Option Addr) (len cap : Nat) (w : World) :
    CallsIn F n Tryz.prog 57 #[.slice A len cap] w fun e w' => e = .returned (.func (.func 108) #[] #[.pointer (some ⟨w.heap.size, 0, none⟩)]) ∧ w' = w.alloc (.cells #[.slice A len cap] 28) := by
  refine callsIn_of_wp Tryz.func57 rfl h5 ?_ hro
  simp only [Tryz.ntmps57, List.size_toArray, List.length_cons, List.length_nil, Nat.reduceAdd, Nat.reduceSub, Array.replicate_succ, Array.replicate_zero, List.push_toArray, List.append_toArray, List.nil_append, List.cons_append]
  gi_wp2
  go_ret
  exact ⟨rfl, rfl⟩
theorem slc_below {n₀ : Nat} {A B : World} {size n : Nat} {v : Value} {cs : List Value} (h : Slc A size v n cs) (hv : ∀ g, v.ownBlock = some g → g < n₀ ∨ n = 0) (k : Below n₀ A B) (hs : A.heap.size ≤ B.heap.size) : Slc B size v n cs := by
  rcases Nat.eq_zero_or_pos n with h0 | h0
  · subst h0
    exact h.empty
  · refine h.keep hs fun g hg _ => k.block g ?_
    rcases hv g hg with q | q
    · exact q
    · omega
/-- All of l from the last one on; or the last ones of it. -/
theorem bk_stops (F : Fence) (n : Nat) (h8 : F.fn 108) (hro : F.round = none) (hn : 1 ≤ n) (Bs n₀ : Nat) (A : Option Addr) (cap : Nat) (l : List StoredR) (hreach : l.length ≤ 1000000) (w : World) (hBl : Bs < n₀) (hn₀ : n₀ ≤ w.heap.size)
    (hc : w.cell? ⟨Bs, 0, none⟩ = some (.slice A l.length cap)) (hI : Slc w 8 (.slice A l.length cap) l.length (l.flatMap StoredR.cells)) (hv : ∀ g, (Value.slice A l.length cap).ownBlock = some g → g < n₀ ∨ l.length = 0) :
    SeqStopsK F n Tryz.prog 108 #[.pointer (some ⟨Bs, 0, none⟩)] (fun x : BkE l => bkV x) (Below n₀) (fun ys => ys.map (·.x) = l.reverse) (fun pre => pre.map (·.x) <+: l.reverse) l.length w := fun ly J Jx W hW _ _ hY h0 => by
  have hc' := (hW.cell (p := ⟨Bs, 0, none⟩) (Nat.lt_of_lt_of_le hBl hn₀)).trans hc
  have hI' := slc_below hI hv (hW.mono hn₀) hW.size
  rcases Nat.eq_zero_or_pos l.length with h0' | h0'
  · have hl : l.reverse = [] := by rw [List.length_eq_zero_iff.1 h0']; rfl
    rw [h0'] at hc'
    exact (bk1_nil_in F n h8 hro ly Bs cap A l J W hc' h0).mono fun e W' ⟨he, hj⟩ => ⟨he, .inl ⟨_, by rw [hl]; rfl, hj⟩⟩
  · obtain ⟨A', cap', e, h1, h2, h3⟩ := hI'.openE StoredR.cells (fun _ => rfl)
    injection e with e1 e2 e3
    subst e1 e3
    obtain ⟨b, off, rfl, hb, _⟩ := h3 0 h0'
    have hbn : b < n₀ := by
      rcases hv b rfl with q | q
      · exact q
      · omega
    exact bk1_in F n h8 hro hn ly Bs n₀ b off cap l hreach hbn J Jx hY W hBl hc' (fun j hj r hr => by
      obtain ⟨b', off', e, _, hcc⟩ := h3 j hj
      cases e
      exact hcc r hr) h0
end Go.Proofs.YtpcemipfanimgaaGreatDoor
/- Contracts of library functions at this dump, laid by the kit's tools in plain words: each is one application of a theorem of the kit's shelf. -/
namespace Go.Proofs
open Go.Shelf
def Tryz.delFunc_ren : Go.Shelf.Ren := ⟨fun | 10 => 87 | 6 => 125 | n => n, fun | 22 => 51 | 23 => 9 | 25 => 82 | 3 => 3 | 4 => 4 | 0 => 0 | n => n, fun | n => n⟩
theorem Tryz.delFunc : Go.Proofs.SlLaysH.n10 Tryz.prog Tryz.delFunc_ren := {
  mixed := by kernel_rfl
  f6 := ⟨Tryz.f125.name, by decide, Tryz.func125.trans (congrArg some (by kernel_rfl))⟩
  f10 := ⟨Tryz.f87.name, by decide, Tryz.func87.trans (congrArg some (by kernel_rfl))⟩
  t0 := Tryz.underlying0
  a0 := Tryz.isAgg0
  z0 := Tryz.sizeOf0
  v0 := Tryz.zeroValue0
  t3 := Tryz.underlying3
  a3 := Tryz.isAgg3
  z3 := Tryz.sizeOf3
  v3 := Tryz.zeroValue3
  t4 := Tryz.underlying4
  a4 := Tryz.isAgg4
  z4 := Tryz.sizeOf4
  v4 := Tryz.zeroValue4
  t22 := Tryz.underlying51
  a22 := Tryz.isAgg51
  z22 := Tryz.sizeOf51
  v22 := Tryz.zeroValue51
  a23 := Tryz.isAgg9
  z23 := Tryz.sizeOf9
  t25 := Tryz.underlying82
  a25 := Tryz.isAgg82
  z25 := Tryz.sizeOf82
  v25 := Tryz.zeroValue82 }
def Tryz.lays128_ren : Go.Shelf.Ren := ⟨fun | 128 => 146 | n => n, fun | 51 => 180 | 3 => 3 | 4 => 4 | 46 => 54 | 5 => 5 | 9 => 9 | n => n, fun | n => n⟩
theorem Tryz.lays128 : Go.Proofs.Lays.n128 Tryz.prog Tryz.lays128_ren := {
  mixed := by kernel_rfl
  f128 := Tryz.func146.trans (congrArg some (by kernel_rfl))
  t3 := Tryz.underlying3
  a3 := Tryz.isAgg3
  z3 := Tryz.sizeOf3
  v3 := Tryz.zeroValue3
  t4 := Tryz.underlying4
  a4 := Tryz.isAgg4
  z4 := Tryz.sizeOf4
  v4 := Tryz.zeroValue4
  t5 := Tryz.underlying5
  a5 := Tryz.isAgg5
  z5 := Tryz.sizeOf5
  v5 := Tryz.zeroValue5
  t9 := Tryz.underlying9
  a9 := Tryz.isAgg9
  z9 := Tryz.sizeOf9
  v9 := Tryz.zeroValue9
  t46 := Tryz.underlying54
  a46 := Tryz.isAgg54
  z46 := Tryz.sizeOf54
  v46 := Tryz.zeroValue54
  t51 := Tryz.underlying180
  a51 := Tryz.isAgg180
  z51 := Tryz.sizeOf180
  v51 := Tryz.zeroValue180 }
theorem Tryz.bits_Len32 (x : Int) (w : World) (h0 : 0 ≤ x) (h1 : x ≤ 4294967295) :
    Calls Tryz.prog 146 #[.int .u32 x] w fun e w' => e = .returned (.int .i64 (Lib.bitLen x.toNat)) ∧ w' = w := Any.bits_Len32 Tryz.lays128 x w h0 h1
def Tryz.lays125_ren : Go.Shelf.Ren := ⟨fun | 125 => 107 | 128 => 146 | 129 => 147 | n => n, fun | 46 => 54 | 3 => 3 | 51 => 180 | 53 => 69 | 4 => 4 | 5 => 5 | 9 => 9 | n => n, fun | n => n⟩
theorem Tryz.lays125 : Go.Proofs.Lays.n125 Tryz.prog Tryz.lays125_ren := {
  mixed := by kernel_rfl
  f125 := Tryz.func107.trans (congrArg some (by kernel_rfl))
  f128 := Tryz.func146.trans (congrArg some (by kernel_rfl))
  f129 := Tryz.func147.trans (congrArg some (by kernel_rfl))
  t3 := Tryz.underlying3
  a3 := Tryz.isAgg3
  z3 := Tryz.sizeOf3
  v3 := Tryz.zeroValue3
  t4 := Tryz.underlying4
  a4 := Tryz.isAgg4
  z4 := Tryz.sizeOf4
  v4 := Tryz.zeroValue4
  t5 := Tryz.underlying5
  a5 := Tryz.isAgg5
  z5 := Tryz.sizeOf5
  v5 := Tryz.zeroValue5
  t9 := Tryz.underlying9
  a9 := Tryz.isAgg9
  z9 := Tryz.sizeOf9
  v9 := Tryz.zeroValue9
  t46 := Tryz.underlying54
  a46 := Tryz.isAgg54
  z46 := Tryz.sizeOf54
  v46 := Tryz.zeroValue54
  t51 := Tryz.underlying180
  a51 := Tryz.isAgg180
  z51 := Tryz.sizeOf180
  v51 := Tryz.zeroValue180
  t53 := Tryz.underlying69
  a53 := Tryz.isAgg69
  z53 := Tryz.sizeOf69
  v53 := Tryz.zeroValue69 }
theorem Tryz.bits_Len (x : Int) (w : World) (h0 : 0 ≤ x) (h1 : x ≤ 18446744073709551615) :
    Calls Tryz.prog 107 #[.int .u64 x] w fun e w' => e = .returned (.int .i64 (Lib.bitLen x.toNat)) ∧ w' = w := Any.bits_Len Tryz.lays125 x w h0 h1
def Tryz.lays137_ren : Go.Shelf.Ren := ⟨fun | 137 => 169 | 217 => 181 | 266 => 196 | n => n, fun | 9 => 9 | 5 => 5 | 3 => 3 | n => n, fun | n => n⟩
theorem Tryz.lays137 : Go.Proofs.Lays.n137 Tryz.prog Tryz.lays137_ren := {
  mixed := by kernel_rfl
  f137 := Tryz.func169.trans (congrArg some (by kernel_rfl))
  f217 := Tryz.func181.trans (congrArg some (by kernel_rfl))
  f266 := Tryz.func196.trans (congrArg some (by kernel_rfl))
  t3 := Tryz.underlying3
  a3 := Tryz.isAgg3
  z3 := Tryz.sizeOf3
  v3 := Tryz.zeroValue3
  t5 := Tryz.underlying5
  a5 := Tryz.isAgg5
  z5 := Tryz.sizeOf5
  v5 := Tryz.zeroValue5
  t9 := Tryz.underlying9
  a9 := Tryz.isAgg9
  z9 := Tryz.sizeOf9
  v9 := Tryz.zeroValue9 }
open Go.RowKit in
theorem Tryz.strings_IndexByte (s : ByteArray) (c : Int) (w : World) :
    Calls Tryz.prog 169 #[.string s, .int .u8 c] w fun e w' => e = .returned (.int .i64 (Lib.indexByte s.data.toList c.toNat.toUInt8)) ∧ w' = w := Any.strings_IndexByte Tryz.lays137 s c w
def Tryz.lays210_ren : Go.Shelf.Ren := ⟨fun | 210 => 160 | 206 => 157 | n => n, fun | 9 => 9 | 4 => 4 | 3 => 3 | n => n, fun | n => n⟩
theorem Tryz.lays210 : Go.Proofs.Lays.n210 Tryz.prog Tryz.lays210_ren := {
  mixed := by kernel_rfl
  f206 := Tryz.func157.trans (congrArg some (by kernel_rfl))
  f210 := Tryz.func160.trans (congrArg some (by kernel_rfl))
  t3 := Tryz.underlying3
  a3 := Tryz.isAgg3
  z3 := Tryz.sizeOf3
  v3 := Tryz.zeroValue3
  t4 := Tryz.underlying4
  a4 := Tryz.isAgg4
  z4 := Tryz.sizeOf4
  v4 := Tryz.zeroValue4
  t9 := Tryz.underlying9
  a9 := Tryz.isAgg9
  z9 := Tryz.sizeOf9
  v9 := Tryz.zeroValue9 }
open Go.RowKit in
theorem Tryz.stringslite_CutPrefix (s p : ByteArray) (w : World) :
    Calls Tryz.prog 160 #[.string s, .string p] w fun e w' => e = .returned (.tuple #[.string ⟨(Lib.trimPrefix s.data.toList p.data.toList).toArray⟩, .bool (Lib.hasPrefix s.data.toList p.data.toList)]) ∧ w' = w := Any.stringslite_CutPrefix Tryz.lays210 s p w
def Tryz.lays103_ren : Go.Shelf.Ren := ⟨fun | 103 => 126 | 210 => 160 | 206 => 157 | n => n, fun | 9 => 9 | 4 => 4 | 24 => 57 | 3 => 3 | n => n, fun | n => n⟩
theorem Tryz.lays103 : Go.Proofs.Lays.n103 Tryz.prog Tryz.lays103_ren := {
  mixed := by kernel_rfl
  f103 := Tryz.func126.trans (congrArg some (by kernel_rfl))
  f206 := Tryz.func157.trans (congrArg some (by kernel_rfl))
  f210 := Tryz.func160.trans (congrArg some (by kernel_rfl))
  t3 := Tryz.underlying3
  a3 := Tryz.isAgg3
  z3 := Tryz.sizeOf3
  v3 := Tryz.zeroValue3
  t4 := Tryz.underlying4
  a4 := Tryz.isAgg4
  z4 := Tryz.sizeOf4
  v4 := Tryz.zeroValue4
  t9 := Tryz.underlying9
  a9 := Tryz.isAgg9
  z9 := Tryz.sizeOf9
  v9 := Tryz.zeroValue9
  t24 := Tryz.underlying57
  a24 := Tryz.isAgg57
  z24 := Tryz.sizeOf57
  v24 := Tryz.zeroValue57 }
open Go.RowKit in
theorem Tryz.strings_CutPrefix (s p : ByteArray) (w : World) :
    Calls Tryz.prog 126 #[.string s, .string p] w fun e w' => e = .returned (.tuple #[.string ⟨(Lib.trimPrefix s.data.toList p.data.toList).toArray⟩, .bool (Lib.hasPrefix s.data.toList p.data.toList)]) ∧ w' = w := Any.strings_CutPrefix Tryz.lays103 s p w
def Tryz.lays129_ren : Go.Shelf.Ren := ⟨fun | 129 => 147 | n => n, fun | 53 => 69 | 3 => 3 | 4 => 4 | 46 => 54 | 5 => 5 | 9 => 9 | n => n, fun | n => n⟩
theorem Tryz.lays129 : Go.Proofs.Lays.n129 Tryz.prog Tryz.lays129_ren := {
  mixed := by kernel_rfl
  f129 := Tryz.func147.trans (congrArg some (by kernel_rfl))
  t3 := Tryz.underlying3
  a3 := Tryz.isAgg3
  z3 := Tryz.sizeOf3
  v3 := Tryz.zeroValue3
  t4 := Tryz.underlying4
  a4 := Tryz.isAgg4
  z4 := Tryz.sizeOf4
  v4 := Tryz.zeroValue4
  t5 := Tryz.underlying5
  a5 := Tryz.isAgg5
  z5 := Tryz.sizeOf5
  v5 := Tryz.zeroValue5
  t9 := Tryz.underlying9
  a9 := Tryz.isAgg9
  z9 := Tryz.sizeOf9
  v9 := Tryz.zeroValue9
  t46 := Tryz.underlying54
  a46 := Tryz.isAgg54
  z46 := Tryz.sizeOf54
  v46 := Tryz.zeroValue54
  t53 := Tryz.underlying69
  a53 := Tryz.isAgg69
  z53 := Tryz.sizeOf69
  v53 := Tryz.zeroValue69 }
theorem Tryz.bits_Len64 (x : Int) (w : World) (h0 : 0 ≤ x) (h1 : x ≤ 18446744073709551615) :
    Calls Tryz.prog 147 #[.int .u64 x] w fun e w' => e = .returned (.int .i64 (Lib.bitLen x.toNat)) ∧ w' = w := Any.bits_Len64 Tryz.lays129 x w h0 h1
def Tryz.lays317_ren : Go.Shelf.Ren := ⟨fun | 317 => 201 | n => n, fun | 3 => 3 | 46 => 54 | n => n, fun | n => n⟩
theorem Tryz.lays317 : Go.Proofs.Lays.n317 Tryz.prog Tryz.lays317_ren := {
  mixed := by kernel_rfl
  f317 := Tryz.func201.trans (congrArg some (by kernel_rfl))
  t3 := Tryz.underlying3
  a3 := Tryz.isAgg3
  z3 := Tryz.sizeOf3
  v3 := Tryz.zeroValue3
  t46 := Tryz.underlying54
  a46 := Tryz.isAgg54
  z46 := Tryz.sizeOf54
  v46 := Tryz.zeroValue54 }
open Go.Lib in
theorem Tryz.internal_strconv_log10Pow2 (x : Nat) (h : x ≤ 64) (w : World) :
    Calls Tryz.prog 201 #[.int .i64 x] w fun e w' => e = .returned (.int .i64 (Lib.l10 x)) ∧ w' = w := Any.internal_strconv_log10Pow2 Tryz.lays317 x h w
def Tryz.lays318_ren : Go.Shelf.Ren := ⟨fun | 318 => 202 | n => n, fun | 3 => 3 | 4 => 4 | n => n, fun | n => n⟩
theorem Tryz.lays318 : Go.Proofs.Lays.n318 Tryz.prog Tryz.lays318_ren := {
  mixed := by kernel_rfl
  f318 := Tryz.func202.trans (congrArg some (by kernel_rfl))
  t3 := Tryz.underlying3
  a3 := Tryz.isAgg3
  z3 := Tryz.sizeOf3
  v3 := Tryz.zeroValue3
  t4 := Tryz.underlying4
  a4 := Tryz.isAgg4
  z4 := Tryz.sizeOf4
  v4 := Tryz.zeroValue4 }
open Go.Lib in
theorem Tryz.internal_strconv_bool2_int (b : Bool) (w : World) :
    Calls Tryz.prog 202 #[.bool b] w fun e w' => e = .returned (.int .i64 (if b then 1 else 0)) ∧ w' = w := Any.internal_strconv_bool2_int Tryz.lays318 b w
def Tryz.lays283_ren : Go.Shelf.Ren := ⟨fun | 283 => 192 | n => n, fun | 3 => 3 | 9 => 9 | 4 => 4 | n => n, fun | n => n⟩
theorem Tryz.lays283 : Go.Proofs.Lays.n283 Tryz.prog Tryz.lays283_ren := {
  mixed := by kernel_rfl
  f283 := Tryz.func192.trans (congrArg some (by kernel_rfl))
  t3 := Tryz.underlying3
  a3 := Tryz.isAgg3
  z3 := Tryz.sizeOf3
  v3 := Tryz.zeroValue3
  t4 := Tryz.underlying4
  a4 := Tryz.isAgg4
  z4 := Tryz.sizeOf4
  v4 := Tryz.zeroValue4
  t9 := Tryz.underlying9
  a9 := Tryz.isAgg9
  z9 := Tryz.sizeOf9
  v9 := Tryz.zeroValue9 }
open Go.Lib in
theorem Tryz.internal_strconv_small (i : Nat) (h : i < 100) (w : World) :
    Calls Tryz.prog 192 #[.int .i64 i] w fun e w' => e = .returned (.string ⟨(Lib.decDigits i).toArray⟩) ∧ w' = w := Any.internal_strconv_small Tryz.lays283 i h w
def Tryz.laysM284_ren : Go.Shelf.Ren := ⟨fun | 284 => 193 | 129 => 147 | 317 => 201 | 318 => 202 | n => n, fun | 53 => 69 | 3 => 3 | 212 => 221 | 0 => 0 | 4 => 4 | 46 => 54 | 5 => 5 | 9 => 9 | n => n, fun | 17 => 2 | n => n⟩
theorem Tryz.laysM284 : Go.Proofs.LaysM.n284 Tryz.prog Tryz.laysM284_ren := {
  mixed := by kernel_rfl
  f129 := Tryz.func147.trans (congrArg some (by kernel_rfl))
  f284 := Tryz.func193.trans (congrArg some (by kernel_rfl))
  f317 := Tryz.func201.trans (congrArg some (by kernel_rfl))
  f318 := Tryz.func202.trans (congrArg some (by kernel_rfl))
  t0 := Tryz.underlying0
  a0 := Tryz.isAgg0
  z0 := Tryz.sizeOf0
  v0 := Tryz.zeroValue0
  t3 := Tryz.underlying3
  a3 := Tryz.isAgg3
  z3 := Tryz.sizeOf3
  v3 := Tryz.zeroValue3
  t4 := Tryz.underlying4
  a4 := Tryz.isAgg4
  z4 := Tryz.sizeOf4
  v4 := Tryz.zeroValue4
  t5 := Tryz.underlying5
  a5 := Tryz.isAgg5
  z5 := Tryz.sizeOf5
  v5 := Tryz.zeroValue5
  t9 := Tryz.underlying9
  a9 := Tryz.isAgg9
  z9 := Tryz.sizeOf9
  v9 := Tryz.zeroValue9
  t46 := Tryz.underlying54
  a46 := Tryz.isAgg54
  z46 := Tryz.sizeOf54
  v46 := Tryz.zeroValue54
  t53 := Tryz.underlying69
  a53 := Tryz.isAgg69
  z53 := Tryz.sizeOf69
  v53 := Tryz.zeroValue69
  t212 := Tryz.underlying221
  a212 := Tryz.isAgg221
  z212 := Tryz.sizeOf221
  v212 := Tryz.zeroValue221
  g17 := by kernel_rfl
  i0 := by kernel_rfl
  i3 := by kernel_rfl
  i4 := by kernel_rfl
  i5 := by kernel_rfl
  i9 := by kernel_rfl
  i46 := by kernel_rfl
  i53 := by kernel_rfl
  i212 := by kernel_rfl
  m17 := by kernel_rfl }
open Go.Lib in
theorem Tryz.internal_strconv_numDigits (u : Nat) (h1 : 1 ≤ u) (h2 : u < 18446744073709551616) (w : World) (htab : Lib.TabIs Tryz.prog w "internal/strconv.uint64pow10" .u64 Lib.pow10Tab) :
    Calls Tryz.prog 193 #[.int .u64 u] w fun e w' => e = .returned (.int .i64 (Lib.nDigits u)) ∧ w' = w := Any.internal_strconv_numDigits Tryz.laysM284 u h1 h2 w htab
def Tryz.lays285_ren : Go.Shelf.Ren := ⟨fun | 285 => 194 | n => n, fun | 37 => 148 | 53 => 69 | 3 => 3 | 4 => 4 | 51 => 180 | 9 => 9 | 5 => 5 | 0 => 0 | n => n, fun | n => n⟩
theorem Tryz.lays285 : Go.Proofs.Lays.n285 Tryz.prog Tryz.lays285_ren := {
  mixed := by kernel_rfl
  f285 := Tryz.func194.trans (congrArg some (by kernel_rfl))
  t0 := Tryz.underlying0
  a0 := Tryz.isAgg0
  z0 := Tryz.sizeOf0
  v0 := Tryz.zeroValue0
  t3 := Tryz.underlying3
  a3 := Tryz.isAgg3
  z3 := Tryz.sizeOf3
  v3 := Tryz.zeroValue3
  t4 := Tryz.underlying4
  a4 := Tryz.isAgg4
  z4 := Tryz.sizeOf4
  v4 := Tryz.zeroValue4
  t5 := Tryz.underlying5
  a5 := Tryz.isAgg5
  z5 := Tryz.sizeOf5
  v5 := Tryz.zeroValue5
  t9 := Tryz.underlying9
  a9 := Tryz.isAgg9
  z9 := Tryz.sizeOf9
  v9 := Tryz.zeroValue9
  t37 := Tryz.underlying148
  a37 := Tryz.isAgg148
  z37 := Tryz.sizeOf148
  v37 := Tryz.zeroValue148
  t51 := Tryz.underlying180
  a51 := Tryz.isAgg180
  z51 := Tryz.sizeOf180
  v51 := Tryz.zeroValue180
  t53 := Tryz.underlying69
  a53 := Tryz.isAgg69
  z53 := Tryz.sizeOf69
  v53 := Tryz.zeroValue69 }
open Go.RowKit Go.Sort Go.Lib in
theorem Tryz.internal_strconv_formatBase10 (blk off cap : Nat) (u : Nat) (d : Array UInt8) (w : World) (hH : Holds (fun (b : UInt8) => Value.int .u8 (b.toNat : Int)) w blk off d) (hu : u < 10 ^ d.size) (hu64 : u < 18446744073709551616) (hsz : d.size < 4611686018427387904) :
    Calls Tryz.prog 194 #[.slice (some ⟨blk, off, none⟩) d.size cap, .int .u64 u] w fun e w' =>
      e = .returned (.tuple #[]) ∧ ∃ (n v' : Nat) (dk : Array UInt8), w' = (putRow (fun (b : UInt8) => Value.int .u8 (b.toNat : Int)) w blk off dk).drewN n ∧ FmtInv d.size u 0 v' dk := Any.internal_strconv_formatBase10 Tryz.lays285 blk off cap u d w hH hu hu64 hsz
def Tryz.laysM246_ren : Go.Shelf.Ren := ⟨fun | 246 => 179 | 283 => 192 | 284 => 193 | 285 => 194 | 286 => 195 | 129 => 147 | 317 => 201 | 318 => 202 | 319 => 203 | 320 => 204 | 337 => 207 | 338 => 208 | n => n, fun | 2 => 2 | 3 => 3 | 9 => 9 | 4 => 4 | 171 => 211 | 0 => 0 | 53 => 69 | 37 => 148 | 5 => 5 | 173 => 213 | 212 => 221 | 51 => 180 | 20 => 20 | 213 => 222 | 46 => 54 | 232 => 225 | 233 => 226 | n => n, fun | 17 => 2 | 18 => 3 | 19 => 4 | n => n⟩
theorem Tryz.laysM246 : Go.Proofs.LaysM.n246 Tryz.prog Tryz.laysM246_ren := {
  mixed := by kernel_rfl
  f129 := Tryz.func147.trans (congrArg some (by kernel_rfl))
  f246 := Tryz.func179.trans (congrArg some (by kernel_rfl))
  f283 := Tryz.func192.trans (congrArg some (by kernel_rfl))
  f284 := Tryz.func193.trans (congrArg some (by kernel_rfl))
  f285 := Tryz.func194.trans (congrArg some (by kernel_rfl))
  f286 := Tryz.func195.trans (congrArg some (by kernel_rfl))
  f317 := Tryz.func201.trans (congrArg some (by kernel_rfl))
  f318 := Tryz.func202.trans (congrArg some (by kernel_rfl))
  f319 := Tryz.func203.trans (congrArg some (by kernel_rfl))
  f320 := Tryz.func204.trans (congrArg some (by kernel_rfl))
  f337 := Tryz.func207.trans (congrArg some (by kernel_rfl))
  f338 := Tryz.func208.trans (congrArg some (by kernel_rfl))
  t0 := Tryz.underlying0
  a0 := Tryz.isAgg0
  z0 := Tryz.sizeOf0
  v0 := Tryz.zeroValue0
  t2 := Tryz.underlying2
  a2 := Tryz.isAgg2
  z2 := Tryz.sizeOf2
  v2 := Tryz.zeroValue2
  t3 := Tryz.underlying3
  a3 := Tryz.isAgg3
  z3 := Tryz.sizeOf3
  v3 := Tryz.zeroValue3
  t4 := Tryz.underlying4
  a4 := Tryz.isAgg4
  z4 := Tryz.sizeOf4
  v4 := Tryz.zeroValue4
  t5 := Tryz.underlying5
  a5 := Tryz.isAgg5
  z5 := Tryz.sizeOf5
  v5 := Tryz.zeroValue5
  t9 := Tryz.underlying9
  a9 := Tryz.isAgg9
  z9 := Tryz.sizeOf9
  v9 := Tryz.zeroValue9
  t20 := Tryz.underlying20
  a20 := Tryz.isAgg20
  z20 := Tryz.sizeOf20
  v20 := Tryz.zeroValue20
  t37 := Tryz.underlying148
  a37 := Tryz.isAgg148
  z37 := Tryz.sizeOf148
  v37 := Tryz.zeroValue148
  t46 := Tryz.underlying54
  a46 := Tryz.isAgg54
  z46 := Tryz.sizeOf54
  v46 := Tryz.zeroValue54
  t51 := Tryz.underlying180
  a51 := Tryz.isAgg180
  z51 := Tryz.sizeOf180
  v51 := Tryz.zeroValue180
  t53 := Tryz.underlying69
  a53 := Tryz.isAgg69
  z53 := Tryz.sizeOf69
  v53 := Tryz.zeroValue69
  t171 := Tryz.underlying211
  a171 := Tryz.isAgg211
  z171 := Tryz.sizeOf211
  v171 := Tryz.zeroValue211
  t173 := Tryz.underlying213
  a173 := Tryz.isAgg213
  z173 := Tryz.sizeOf213
  v173 := Tryz.zeroValue213
  t212 := Tryz.underlying221
  a212 := Tryz.isAgg221
  z212 := Tryz.sizeOf221
  v212 := Tryz.zeroValue221
  t213 := Tryz.underlying222
  a213 := Tryz.isAgg222
  z213 := Tryz.sizeOf222
  t232 := Tryz.underlying225
  a232 := Tryz.isAgg225
  z232 := Tryz.sizeOf225
  v232 := Tryz.zeroValue225
  t233 := Tryz.underlying226
  a233 := Tryz.isAgg226
  z233 := Tryz.sizeOf226
  v233 := Tryz.zeroValue226
  g17 := by kernel_rfl
  g18 := by kernel_rfl
  g19 := by kernel_rfl
  i0 := by kernel_rfl
  i2 := by kernel_rfl
  i3 := by kernel_rfl
  i4 := by kernel_rfl
  i5 := by kernel_rfl
  i9 := by kernel_rfl
  i20 := by kernel_rfl
  i37 := by kernel_rfl
  i46 := by kernel_rfl
  i51 := by kernel_rfl
  i53 := by kernel_rfl
  i171 := by kernel_rfl
  i173 := by kernel_rfl
  i212 := by kernel_rfl
  i232 := by kernel_rfl
  i233 := by kernel_rfl
  m17 := by kernel_rfl
  m18 := by kernel_rfl
  m19 := by kernel_rfl }
open Go.RowKit Go.Sort Go.Lib in
theorem Tryz.internal_strconv_FormatInt_10 (n : Int) (h0 : -9223372036854775808 ≤ n) (h1 : n ≤ 9223372036854775807) (w : World) (htab : Lib.TabIs Tryz.prog w "internal/strconv.uint64pow10" .u64 Lib.pow10Tab) :
    Calls Tryz.prog 179 #[.int .i64 n, .int .i64 10] w fun e w' => e = .returned (.string ⟨(Lib.itoa n).toArray⟩) ∧ ∃ k os, w' = grow (w.drewN k) os := Any.internal_strconv_FormatInt_10 Tryz.laysM246 n h0 h1 w htab
def Tryz.lays246_ren : Go.Shelf.Ren := ⟨fun | 246 => 179 | 283 => 192 | 284 => 193 | 285 => 194 | 286 => 195 | 129 => 147 | 317 => 201 | 318 => 202 | 319 => 203 | 320 => 204 | 337 => 207 | 338 => 208 | n => n, fun | 2 => 2 | 3 => 3 | 9 => 9 | 4 => 4 | 171 => 211 | 0 => 0 | 53 => 69 | 37 => 148 | 5 => 5 | 173 => 213 | 212 => 221 | 51 => 180 | 20 => 20 | 213 => 222 | 46 => 54 | 232 => 225 | 233 => 226 | n => n, fun | 17 => 2 | 18 => 3 | 19 => 4 | n => n⟩
theorem Tryz.lays246 : Go.Proofs.Lays.n246 Tryz.prog Tryz.lays246_ren := {
  mixed := by kernel_rfl
  f129 := Tryz.func147.trans (congrArg some (by kernel_rfl))
  f246 := Tryz.func179.trans (congrArg some (by kernel_rfl))
  f283 := Tryz.func192.trans (congrArg some (by kernel_rfl))
  f284 := Tryz.func193.trans (congrArg some (by kernel_rfl))
  f285 := Tryz.func194.trans (congrArg some (by kernel_rfl))
  f286 := Tryz.func195.trans (congrArg some (by kernel_rfl))
  f317 := Tryz.func201.trans (congrArg some (by kernel_rfl))
  f318 := Tryz.func202.trans (congrArg some (by kernel_rfl))
  f319 := Tryz.func203.trans (congrArg some (by kernel_rfl))
  f320 := Tryz.func204.trans (congrArg some (by kernel_rfl))
  f337 := Tryz.func207.trans (congrArg some (by kernel_rfl))
  f338 := Tryz.func208.trans (congrArg some (by kernel_rfl))
  t0 := Tryz.underlying0
  a0 := Tryz.isAgg0
  z0 := Tryz.sizeOf0
  v0 := Tryz.zeroValue0
  t2 := Tryz.underlying2
  a2 := Tryz.isAgg2
  z2 := Tryz.sizeOf2
  v2 := Tryz.zeroValue2
  t3 := Tryz.underlying3
  a3 := Tryz.isAgg3
  z3 := Tryz.sizeOf3
  v3 := Tryz.zeroValue3
  t4 := Tryz.underlying4
  a4 := Tryz.isAgg4
  z4 := Tryz.sizeOf4
  v4 := Tryz.zeroValue4
  t5 := Tryz.underlying5
  a5 := Tryz.isAgg5
  z5 := Tryz.sizeOf5
  v5 := Tryz.zeroValue5
  t9 := Tryz.underlying9
  a9 := Tryz.isAgg9
  z9 := Tryz.sizeOf9
  v9 := Tryz.zeroValue9
  t20 := Tryz.underlying20
  a20 := Tryz.isAgg20
  z20 := Tryz.sizeOf20
  v20 := Tryz.zeroValue20
  t37 := Tryz.underlying148
  a37 := Tryz.isAgg148
  z37 := Tryz.sizeOf148
  v37 := Tryz.zeroValue148
  t46 := Tryz.underlying54
  a46 := Tryz.isAgg54
  z46 := Tryz.sizeOf54
  v46 := Tryz.zeroValue54
  t51 := Tryz.underlying180
  a51 := Tryz.isAgg180
  z51 := Tryz.sizeOf180
  v51 := Tryz.zeroValue180
  t53 := Tryz.underlying69
  a53 := Tryz.isAgg69
  z53 := Tryz.sizeOf69
  v53 := Tryz.zeroValue69
  t171 := Tryz.underlying211
  a171 := Tryz.isAgg211
  z171 := Tryz.sizeOf211
  v171 := Tryz.zeroValue211
  t173 := Tryz.underlying213
  a173 := Tryz.isAgg213
  z173 := Tryz.sizeOf213
  v173 := Tryz.zeroValue213
  t212 := Tryz.underlying221
  a212 := Tryz.isAgg221
  z212 := Tryz.sizeOf221
  v212 := Tryz.zeroValue221
  t213 := Tryz.underlying222
  a213 := Tryz.isAgg222
  z213 := Tryz.sizeOf222
  t232 := Tryz.underlying225
  a232 := Tryz.isAgg225
  z232 := Tryz.sizeOf225
  v232 := Tryz.zeroValue225
  t233 := Tryz.underlying226
  a233 := Tryz.isAgg226
  z233 := Tryz.sizeOf226
  v233 := Tryz.zeroValue226
  g17 := by kernel_rfl
  g18 := by kernel_rfl
  g19 := by kernel_rfl }
open Go.RowKit Go.Sort Go.Lib in
theorem Tryz.internal_strconv_FormatInt_10_small (i : Nat) (hi : i < 100) (w : World) :
    Calls Tryz.prog 179 #[.int .i64 i, .int .i64 10] w fun e w' => e = .returned (.string ⟨(Lib.decDigits i).toArray⟩) ∧ w' = w := Any.internal_strconv_FormatInt_10_small Tryz.lays246 i hi w
def Tryz.laysM243_ren : Go.Shelf.Ren := ⟨fun | 243 => 162 | 246 => 179 | 283 => 192 | 284 => 193 | 285 => 194 | 286 => 195 | 129 => 147 | 317 => 201 | 318 => 202 | 319 => 203 | 320 => 204 | 337 => 207 | 338 => 208 | n => n, fun | 3 => 3 | 9 => 9 | 2 => 2 | 4 => 4 | 171 => 211 | 0 => 0 | 53 => 69 | 37 => 148 | 5 => 5 | 173 => 213 | 212 => 221 | 51 => 180 | 20 => 20 | 213 => 222 | 46 => 54 | 232 => 225 | 233 => 226 | n => n, fun | 17 => 2 | 18 => 3 | 19 => 4 | n => n⟩
theorem Tryz.laysM243 : Go.Proofs.LaysM.n243 Tryz.prog Tryz.laysM243_ren := {
  mixed := by kernel_rfl
  f129 := Tryz.func147.trans (congrArg some (by kernel_rfl))
  f243 := Tryz.func162.trans (congrArg some (by kernel_rfl))
  f246 := Tryz.func179.trans (congrArg some (by kernel_rfl))
  f283 := Tryz.func192.trans (congrArg some (by kernel_rfl))
  f284 := Tryz.func193.trans (congrArg some (by kernel_rfl))
  f285 := Tryz.func194.trans (congrArg some (by kernel_rfl))
  f286 := Tryz.func195.trans (congrArg some (by kernel_rfl))
  f317 := Tryz.func201.trans (congrArg some (by kernel_rfl))
  f318 := Tryz.func202.trans (congrArg some (by kernel_rfl))
  f319 := Tryz.func203.trans (congrArg some (by kernel_rfl))
  f320 := Tryz.func204.trans (congrArg some (by kernel_rfl))
  f337 := Tryz.func207.trans (congrArg some (by kernel_rfl))
  f338 := Tryz.func208.trans (congrArg some (by kernel_rfl))
  t0 := Tryz.underlying0
  a0 := Tryz.isAgg0
  z0 := Tryz.sizeOf0
  v0 := Tryz.zeroValue0
  t2 := Tryz.underlying2
  a2 := Tryz.isAgg2
  z2 := Tryz.sizeOf2
  v2 := Tryz.zeroValue2
  t3 := Tryz.underlying3
  a3 := Tryz.isAgg3
  z3 := Tryz.sizeOf3
  v3 := Tryz.zeroValue3
  t4 := Tryz.underlying4
  a4 := Tryz.isAgg4
  z4 := Tryz.sizeOf4
  v4 := Tryz.zeroValue4
  t5 := Tryz.underlying5
  a5 := Tryz.isAgg5
  z5 := Tryz.sizeOf5
  v5 := Tryz.zeroValue5
  t9 := Tryz.underlying9
  a9 := Tryz.isAgg9
  z9 := Tryz.sizeOf9
  v9 := Tryz.zeroValue9
  t20 := Tryz.underlying20
  a20 := Tryz.isAgg20
  z20 := Tryz.sizeOf20
  v20 := Tryz.zeroValue20
  t37 := Tryz.underlying148
  a37 := Tryz.isAgg148
  z37 := Tryz.sizeOf148
  v37 := Tryz.zeroValue148
  t46 := Tryz.underlying54
  a46 := Tryz.isAgg54
  z46 := Tryz.sizeOf54
  v46 := Tryz.zeroValue54
  t51 := Tryz.underlying180
  a51 := Tryz.isAgg180
  z51 := Tryz.sizeOf180
  v51 := Tryz.zeroValue180
  t53 := Tryz.underlying69
  a53 := Tryz.isAgg69
  z53 := Tryz.sizeOf69
  v53 := Tryz.zeroValue69
  t171 := Tryz.underlying211
  a171 := Tryz.isAgg211
  z171 := Tryz.sizeOf211
  v171 := Tryz.zeroValue211
  t173 := Tryz.underlying213
  a173 := Tryz.isAgg213
  z173 := Tryz.sizeOf213
  v173 := Tryz.zeroValue213
  t212 := Tryz.underlying221
  a212 := Tryz.isAgg221
  z212 := Tryz.sizeOf221
  v212 := Tryz.zeroValue221
  t213 := Tryz.underlying222
  a213 := Tryz.isAgg222
  z213 := Tryz.sizeOf222
  t232 := Tryz.underlying225
  a232 := Tryz.isAgg225
  z232 := Tryz.sizeOf225
  v232 := Tryz.zeroValue225
  t233 := Tryz.underlying226
  a233 := Tryz.isAgg226
  z233 := Tryz.sizeOf226
  v233 := Tryz.zeroValue226
  g17 := by kernel_rfl
  g18 := by kernel_rfl
  g19 := by kernel_rfl
  i0 := by kernel_rfl
  i2 := by kernel_rfl
  i3 := by kernel_rfl
  i4 := by kernel_rfl
  i5 := by kernel_rfl
  i9 := by kernel_rfl
  i20 := by kernel_rfl
  i37 := by kernel_rfl
  i46 := by kernel_rfl
  i51 := by kernel_rfl
  i53 := by kernel_rfl
  i171 := by kernel_rfl
  i173 := by kernel_rfl
  i212 := by kernel_rfl
  i232 := by kernel_rfl
  i233 := by kernel_rfl
  m17 := by kernel_rfl
  m18 := by kernel_rfl
  m19 := by kernel_rfl }
open Go.RowKit Go.Sort Go.Lib in
theorem Tryz.internal_strconv_Itoa (n : Int) (h0 : -9223372036854775808 ≤ n) (h1 : n ≤ 9223372036854775807) (w : World) (htab : Lib.TabIs Tryz.prog w "internal/strconv.uint64pow10" .u64 Lib.pow10Tab) :
    Calls Tryz.prog 162 #[.int .i64 n] w fun e w' => e = .returned (.string ⟨(Lib.itoa n).toArray⟩) ∧ ∃ k os, w' = grow (w.drewN k) os := Any.internal_strconv_Itoa Tryz.laysM243 n h0 h1 w htab
def Tryz.lays243_ren : Go.Shelf.Ren := ⟨fun | 243 => 162 | 246 => 179 | 283 => 192 | 284 => 193 | 285 => 194 | 286 => 195 | 129 => 147 | 317 => 201 | 318 => 202 | 319 => 203 | 320 => 204 | 337 => 207 | 338 => 208 | n => n, fun | 3 => 3 | 9 => 9 | 2 => 2 | 4 => 4 | 171 => 211 | 0 => 0 | 53 => 69 | 37 => 148 | 5 => 5 | 173 => 213 | 212 => 221 | 51 => 180 | 20 => 20 | 213 => 222 | 46 => 54 | 232 => 225 | 233 => 226 | n => n, fun | 17 => 2 | 18 => 3 | 19 => 4 | n => n⟩
theorem Tryz.lays243 : Go.Proofs.Lays.n243 Tryz.prog Tryz.lays243_ren := {
  mixed := by kernel_rfl
  f129 := Tryz.func147.trans (congrArg some (by kernel_rfl))
  f243 := Tryz.func162.trans (congrArg some (by kernel_rfl))
  f246 := Tryz.func179.trans (congrArg some (by kernel_rfl))
  f283 := Tryz.func192.trans (congrArg some (by kernel_rfl))
  f284 := Tryz.func193.trans (congrArg some (by kernel_rfl))
  f285 := Tryz.func194.trans (congrArg some (by kernel_rfl))
  f286 := Tryz.func195.trans (congrArg some (by kernel_rfl))
  f317 := Tryz.func201.trans (congrArg some (by kernel_rfl))
  f318 := Tryz.func202.trans (congrArg some (by kernel_rfl))
  f319 := Tryz.func203.trans (congrArg some (by kernel_rfl))
  f320 := Tryz.func204.trans (congrArg some (by kernel_rfl))
  f337 := Tryz.func207.trans (congrArg some (by kernel_rfl))
  f338 := Tryz.func208.trans (congrArg some (by kernel_rfl))
  t0 := Tryz.underlying0
  a0 := Tryz.isAgg0
  z0 := Tryz.sizeOf0
  v0 := Tryz.zeroValue0
  t2 := Tryz.underlying2
  a2 := Tryz.isAgg2
  z2 := Tryz.sizeOf2
  v2 := Tryz.zeroValue2
  t3 := Tryz.underlying3
  a3 := Tryz.isAgg3
  z3 := Tryz.sizeOf3
  v3 := Tryz.zeroValue3
  t4 := Tryz.underlying4
  a4 := Tryz.isAgg4
  z4 := Tryz.sizeOf4
  v4 := Tryz.zeroValue4
  t5 := Tryz.underlying5
  a5 := Tryz.isAgg5
  z5 := Tryz.sizeOf5
  v5 := Tryz.zeroValue5
  t9 := Tryz.underlying9
  a9 := Tryz.isAgg9
  z9 := Tryz.sizeOf9
  v9 := Tryz.zeroValue9
  t20 := Tryz.underlying20
  a20 := Tryz.isAgg20
  z20 := Tryz.sizeOf20
  v20 := Tryz.zeroValue20
  t37 := Tryz.underlying148
  a37 := Tryz.isAgg148
  z37 := Tryz.sizeOf148
  v37 := Tryz.zeroValue148
  t46 := Tryz.underlying54
  a46 := Tryz.isAgg54
  z46 := Tryz.sizeOf54
  v46 := Tryz.zeroValue54
  t51 := Tryz.underlying180
  a51 := Tryz.isAgg180
  z51 := Tryz.sizeOf180
  v51 := Tryz.zeroValue180
  t53 := Tryz.underlying69
  a53 := Tryz.isAgg69
  z53 := Tryz.sizeOf69
  v53 := Tryz.zeroValue69
  t171 := Tryz.underlying211
  a171 := Tryz.isAgg211
  z171 := Tryz.sizeOf211
  v171 := Tryz.zeroValue211
  t173 := Tryz.underlying213
  a173 := Tryz.isAgg213
  z173 := Tryz.sizeOf213
  v173 := Tryz.zeroValue213
  t212 := Tryz.underlying221
  a212 := Tryz.isAgg221
  z212 := Tryz.sizeOf221
  v212 := Tryz.zeroValue221
  t213 := Tryz.underlying222
  a213 := Tryz.isAgg222
  z213 := Tryz.sizeOf222
  t232 := Tryz.underlying225
  a232 := Tryz.isAgg225
  z232 := Tryz.sizeOf225
  v232 := Tryz.zeroValue225
  t233 := Tryz.underlying226
  a233 := Tryz.isAgg226
  z233 := Tryz.sizeOf226
  v233 := Tryz.zeroValue226
  g17 := by kernel_rfl
  g18 := by kernel_rfl
  g19 := by kernel_rfl }
open Go.RowKit Go.Sort Go.Lib in
theorem Tryz.internal_strconv_Itoa_small (i : Nat) (hi : i < 100) (w : World) :
    Calls Tryz.prog 162 #[.int .i64 i] w fun e w' => e = .returned (.string ⟨(Lib.decDigits i).toArray⟩) ∧ w' = w := Any.internal_strconv_Itoa_small Tryz.lays243 i hi w
def Tryz.laysM171_ren : Go.Shelf.Ren := ⟨fun | 171 => 136 | 243 => 162 | 246 => 179 | 283 => 192 | 284 => 193 | 285 => 194 | 286 => 195 | 129 => 147 | 317 => 201 | 318 => 202 | 319 => 203 | 320 => 204 | 337 => 207 | 338 => 208 | n => n, fun | 3 => 3 | 9 => 9 | 2 => 2 | 4 => 4 | 171 => 211 | 0 => 0 | 53 => 69 | 37 => 148 | 5 => 5 | 173 => 213 | 212 => 221 | 51 => 180 | 20 => 20 | 213 => 222 | 46 => 54 | 232 => 225 | 233 => 226 | n => n, fun | 17 => 2 | 18 => 3 | 19 => 4 | n => n⟩
theorem Tryz.laysM171 : Go.Proofs.LaysM.n171 Tryz.prog Tryz.laysM171_ren := {
  mixed := by kernel_rfl
  f129 := Tryz.func147.trans (congrArg some (by kernel_rfl))
  f171 := Tryz.func136.trans (congrArg some (by kernel_rfl))
  f243 := Tryz.func162.trans (congrArg some (by kernel_rfl))
  f246 := Tryz.func179.trans (congrArg some (by kernel_rfl))
  f283 := Tryz.func192.trans (congrArg some (by kernel_rfl))
  f284 := Tryz.func193.trans (congrArg some (by kernel_rfl))
  f285 := Tryz.func194.trans (congrArg some (by kernel_rfl))
  f286 := Tryz.func195.trans (congrArg some (by kernel_rfl))
  f317 := Tryz.func201.trans (congrArg some (by kernel_rfl))
  f318 := Tryz.func202.trans (congrArg some (by kernel_rfl))
  f319 := Tryz.func203.trans (congrArg some (by kernel_rfl))
  f320 := Tryz.func204.trans (congrArg some (by kernel_rfl))
  f337 := Tryz.func207.trans (congrArg some (by kernel_rfl))
  f338 := Tryz.func208.trans (congrArg some (by kernel_rfl))
  t0 := Tryz.underlying0
  a0 := Tryz.isAgg0
  z0 := Tryz.sizeOf0
  v0 := Tryz.zeroValue0
  t2 := Tryz.underlying2
  a2 := Tryz.isAgg2
  z2 := Tryz.sizeOf2
  v2 := Tryz.zeroValue2
  t3 := Tryz.underlying3
  a3 := Tryz.isAgg3
  z3 := Tryz.sizeOf3
  v3 := Tryz.zeroValue3
  t4 := Tryz.underlying4
  a4 := Tryz.isAgg4
  z4 := Tryz.sizeOf4
  v4 := Tryz.zeroValue4
  t5 := Tryz.underlying5
  a5 := Tryz.isAgg5
  z5 := Tryz.sizeOf5
  v5 := Tryz.zeroValue5
  t9 := Tryz.underlying9
  a9 := Tryz.isAgg9
  z9 := Tryz.sizeOf9
  v9 := Tryz.zeroValue9
  t20 := Tryz.underlying20
  a20 := Tryz.isAgg20
  z20 := Tryz.sizeOf20
  v20 := Tryz.zeroValue20
  t37 := Tryz.underlying148
  a37 := Tryz.isAgg148
  z37 := Tryz.sizeOf148
  v37 := Tryz.zeroValue148
  t46 := Tryz.underlying54
  a46 := Tryz.isAgg54
  z46 := Tryz.sizeOf54
  v46 := Tryz.zeroValue54
  t51 := Tryz.underlying180
  a51 := Tryz.isAgg180
  z51 := Tryz.sizeOf180
  v51 := Tryz.zeroValue180
  t53 := Tryz.underlying69
  a53 := Tryz.isAgg69
  z53 := Tryz.sizeOf69
  v53 := Tryz.zeroValue69
  t171 := Tryz.underlying211
  a171 := Tryz.isAgg211
  z171 := Tryz.sizeOf211
  v171 := Tryz.zeroValue211
  t173 := Tryz.underlying213
  a173 := Tryz.isAgg213
  z173 := Tryz.sizeOf213
  v173 := Tryz.zeroValue213
  t212 := Tryz.underlying221
  a212 := Tryz.isAgg221
  z212 := Tryz.sizeOf221
  v212 := Tryz.zeroValue221
  t213 := Tryz.underlying222
  a213 := Tryz.isAgg222
  z213 := Tryz.sizeOf222
  t232 := Tryz.underlying225
  a232 := Tryz.isAgg225
  z232 := Tryz.sizeOf225
  v232 := Tryz.zeroValue225
  t233 := Tryz.underlying226
  a233 := Tryz.isAgg226
  z233 := Tryz.sizeOf226
  v233 := Tryz.zeroValue226
  g17 := by kernel_rfl
  g18 := by kernel_rfl
  g19 := by kernel_rfl
  i0 := by kernel_rfl
  i2 := by kernel_rfl
  i3 := by kernel_rfl
  i4 := by kernel_rfl
  i5 := by kernel_rfl
  i9 := by kernel_rfl
  i20 := by kernel_rfl
  i37 := by kernel_rfl
  i46 := by kernel_rfl
  i51 := by kernel_rfl
  i53 := by kernel_rfl
  i171 := by kernel_rfl
  i173 := by kernel_rfl
  i212 := by kernel_rfl
  i232 := by kernel_rfl
  i233 := by kernel_rfl
  m17 := by kernel_rfl
  m18 := by kernel_rfl
  m19 := by kernel_rfl }
open Go.RowKit Go.Sort Go.Lib in
theorem Tryz.strconv_Itoa (n : Int) (h0 : -9223372036854775808 ≤ n) (h1 : n ≤ 9223372036854775807) (w : World) (htab : Lib.TabIs Tryz.prog w "internal/strconv.uint64pow10" .u64 Lib.pow10Tab) :
    Calls Tryz.prog 136 #[.int .i64 n] w fun e w' => e = .returned (.string ⟨(Lib.itoa n).toArray⟩) ∧ ∃ k os, w' = grow (w.drewN k) os := Any.strconv_Itoa Tryz.laysM171 n h0 h1 w htab
def Tryz.lays171_ren : Go.Shelf.Ren := ⟨fun | 171 => 136 | 243 => 162 | 246 => 179 | 283 => 192 | 284 => 193 | 285 => 194 | 286 => 195 | 129 => 147 | 317 => 201 | 318 => 202 | 319 => 203 | 320 => 204 | 337 => 207 | 338 => 208 | n => n, fun | 3 => 3 | 9 => 9 | 2 => 2 | 4 => 4 | 171 => 211 | 0 => 0 | 53 => 69 | 37 => 148 | 5 => 5 | 173 => 213 | 212 => 221 | 51 => 180 | 20 => 20 | 213 => 222 | 46 => 54 | 232 => 225 | 233 => 226 | n => n, fun | 17 => 2 | 18 => 3 | 19 => 4 | n => n⟩
theorem Tryz.lays171 : Go.Proofs.Lays.n171 Tryz.prog Tryz.lays171_ren := {
  mixed := by kernel_rfl
  f129 := Tryz.func147.trans (congrArg some (by kernel_rfl))
  f171 := Tryz.func136.trans (congrArg some (by kernel_rfl))
  f243 := Tryz.func162.trans (congrArg some (by kernel_rfl))
  f246 := Tryz.func179.trans (congrArg some (by kernel_rfl))
  f283 := Tryz.func192.trans (congrArg some (by kernel_rfl))
  f284 := Tryz.func193.trans (congrArg some (by kernel_rfl))
  f285 := Tryz.func194.trans (congrArg some (by kernel_rfl))
  f286 := Tryz.func195.trans (congrArg some (by kernel_rfl))
  f317 := Tryz.func201.trans (congrArg some (by kernel_rfl))
  f318 := Tryz.func202.trans (congrArg some (by kernel_rfl))
  f319 := Tryz.func203.trans (congrArg some (by kernel_rfl))
  f320 := Tryz.func204.trans (congrArg some (by kernel_rfl))
  f337 := Tryz.func207.trans (congrArg some (by kernel_rfl))
  f338 := Tryz.func208.trans (congrArg some (by kernel_rfl))
  t0 := Tryz.underlying0
  a0 := Tryz.isAgg0
  z0 := Tryz.sizeOf0
  v0 := Tryz.zeroValue0
  t2 := Tryz.underlying2
  a2 := Tryz.isAgg2
  z2 := Tryz.sizeOf2
  v2 := Tryz.zeroValue2
  t3 := Tryz.underlying3
  a3 := Tryz.isAgg3
  z3 := Tryz.sizeOf3
  v3 := Tryz.zeroValue3
  t4 := Tryz.underlying4
  a4 := Tryz.isAgg4
  z4 := Tryz.sizeOf4
  v4 := Tryz.zeroValue4
  t5 := Tryz.underlying5
  a5 := Tryz.isAgg5
  z5 := Tryz.sizeOf5
  v5 := Tryz.zeroValue5
  t9 := Tryz.underlying9
  a9 := Tryz.isAgg9
  z9 := Tryz.sizeOf9
  v9 := Tryz.zeroValue9
  t20 := Tryz.underlying20
  a20 := Tryz.isAgg20
  z20 := Tryz.sizeOf20
  v20 := Tryz.zeroValue20
  t37 := Tryz.underlying148
  a37 := Tryz.isAgg148
  z37 := Tryz.sizeOf148
  v37 := Tryz.zeroValue148
  t46 := Tryz.underlying54
  a46 := Tryz.isAgg54
  z46 := Tryz.sizeOf54
  v46 := Tryz.zeroValue54
  t51 := Tryz.underlying180
  a51 := Tryz.isAgg180
  z51 := Tryz.sizeOf180
  v51 := Tryz.zeroValue180
  t53 := Tryz.underlying69
  a53 := Tryz.isAgg69
  z53 := Tryz.sizeOf69
  v53 := Tryz.zeroValue69
  t171 := Tryz.underlying211
  a171 := Tryz.isAgg211
  z171 := Tryz.sizeOf211
  v171 := Tryz.zeroValue211
  t173 := Tryz.underlying213
  a173 := Tryz.isAgg213
  z173 := Tryz.sizeOf213
  v173 := Tryz.zeroValue213
  t212 := Tryz.underlying221
  a212 := Tryz.isAgg221
  z212 := Tryz.sizeOf221
  v212 := Tryz.zeroValue221
  t213 := Tryz.underlying222
  a213 := Tryz.isAgg222
  z213 := Tryz.sizeOf222
  t232 := Tryz.underlying225
  a232 := Tryz.isAgg225
  z232 := Tryz.sizeOf225
  v232 := Tryz.zeroValue225
  t233 := Tryz.underlying226
  a233 := Tryz.isAgg226
  z233 := Tryz.sizeOf226
  v233 := Tryz.zeroValue226
  g17 := by kernel_rfl
  g18 := by kernel_rfl
  g19 := by kernel_rfl }
open Go.RowKit Go.Sort Go.Lib in
theorem Tryz.strconv_Itoa_small (i : Nat) (hi : i < 100) (w : World) :
    Calls Tryz.prog 136 #[.int .i64 i] w fun e w' => e = .returned (.string ⟨(Lib.decDigits i).toArray⟩) ∧ w' = w := Any.strconv_Itoa_small Tryz.lays171 i hi w
def Tryz.laysM316_ren : Go.Shelf.Ren := ⟨fun | 316 => 159 | n => n, fun | 9 => 9 | 3 => 3 | 4 => 4 | 37 => 148 | 0 => 0 | 127 => 203 | 5 => 5 | n => n, fun | n => n⟩
theorem Tryz.laysM316 : Go.Proofs.LaysM.n316 Tryz.prog Tryz.laysM316_ren := {
  mixed := by kernel_rfl
  f316 := Tryz.func159.trans (congrArg some (by kernel_rfl))
  t0 := Tryz.underlying0
  a0 := Tryz.isAgg0
  z0 := Tryz.sizeOf0
  v0 := Tryz.zeroValue0
  t3 := Tryz.underlying3
  a3 := Tryz.isAgg3
  z3 := Tryz.sizeOf3
  v3 := Tryz.zeroValue3
  t4 := Tryz.underlying4
  a4 := Tryz.isAgg4
  z4 := Tryz.sizeOf4
  v4 := Tryz.zeroValue4
  t9 := Tryz.underlying9
  a9 := Tryz.isAgg9
  z9 := Tryz.sizeOf9
  v9 := Tryz.zeroValue9
  t37 := Tryz.underlying148
  a37 := Tryz.isAgg148
  z37 := Tryz.sizeOf148
  v37 := Tryz.zeroValue148
  t127 := Tryz.underlying203
  a127 := Tryz.isAgg203
  z127 := Tryz.sizeOf203
  v127 := Tryz.zeroValue203
  t5 := Tryz.underlying5
  a5 := Tryz.isAgg5
  z5 := Tryz.sizeOf5
  v5 := Tryz.zeroValue5
  i0 := by kernel_rfl
  i3 := by kernel_rfl
  i4 := by kernel_rfl
  i5 := by kernel_rfl
  i9 := by kernel_rfl
  i37 := by kernel_rfl
  i127 := by kernel_rfl }
open Go.RowKit in
theorem Tryz.stringslite_Clone (s : ByteArray) (w : World) (hlim : s.size ≤ 281474976710656) :
    Calls Tryz.prog 159 #[.string s] w fun e w' => e = .returned (.string s) ∧ Below w.heap.size w w' := Any.stringslite_Clone Tryz.laysM316 s w hlim
def Tryz.lays217_ren : Go.Shelf.Ren := ⟨fun | 217 => 181 | 266 => 196 | n => n, fun | 9 => 9 | 5 => 5 | 3 => 3 | n => n, fun | n => n⟩
theorem Tryz.lays217 : Go.Proofs.Lays.n217 Tryz.prog Tryz.lays217_ren := {
  mixed := by kernel_rfl
  f217 := Tryz.func181.trans (congrArg some (by kernel_rfl))
  f266 := Tryz.func196.trans (congrArg some (by kernel_rfl))
  t3 := Tryz.underlying3
  a3 := Tryz.isAgg3
  z3 := Tryz.sizeOf3
  v3 := Tryz.zeroValue3
  t5 := Tryz.underlying5
  a5 := Tryz.isAgg5
  z5 := Tryz.sizeOf5
  v5 := Tryz.zeroValue5
  t9 := Tryz.underlying9
  a9 := Tryz.isAgg9
  z9 := Tryz.sizeOf9
  v9 := Tryz.zeroValue9 }
open Go.RowKit Go.Lib in
theorem Tryz.stringslite_IndexByte (s : ByteArray) (c : Int) (w : World) :
    Calls Tryz.prog 181 #[.string s, .int .u8 c] w fun e w' => e = .returned (.int .i64 (Lib.indexByte s.data.toList c.toNat.toUInt8)) ∧ w' = w := Any.stringslite_IndexByte Tryz.lays217 s c w
def Tryz.lays224_ren : Go.Shelf.Ren := ⟨fun | 224 => 190 | n => n, fun | 3 => 3 | n => n, fun | n => n⟩
theorem Tryz.lays224 : Go.Proofs.Lays.n224 Tryz.prog Tryz.lays224_ren := {
  mixed := by kernel_rfl
  f224 := Tryz.func190.trans (congrArg some (by kernel_rfl))
  t3 := Tryz.underlying3
  a3 := Tryz.isAgg3
  z3 := Tryz.sizeOf3
  v3 := Tryz.zeroValue3 }
open Go.RowKit Go.Lib in
theorem Tryz.bytealg_Cutover (n : Int) (h0 : 0 ≤ n) (h1 : n < 4611686018427387904) (w : World) :
    Calls Tryz.prog 190 #[.int .i64 n] w fun e w' => e = .returned (.int .i64 ((n + 16) / 8)) ∧ w' = w := Any.bytealg_Cutover Tryz.lays224 n h0 h1 w
def Tryz.lays314_ren : Go.Shelf.Ren := ⟨fun | 314 => 200 | n => n, fun | 9 => 9 | 51 => 180 | 3 => 3 | 4 => 4 | 5 => 5 | 46 => 54 | n => n, fun | n => n⟩
theorem Tryz.lays314 : Go.Proofs.Lays.n314 Tryz.prog Tryz.lays314_ren := {
  mixed := by kernel_rfl
  f314 := Tryz.func200.trans (congrArg some (by kernel_rfl))
  t3 := Tryz.underlying3
  a3 := Tryz.isAgg3
  z3 := Tryz.sizeOf3
  v3 := Tryz.zeroValue3
  t4 := Tryz.underlying4
  a4 := Tryz.isAgg4
  z4 := Tryz.sizeOf4
  v4 := Tryz.zeroValue4
  t5 := Tryz.underlying5
  a5 := Tryz.isAgg5
  z5 := Tryz.sizeOf5
  v5 := Tryz.zeroValue5
  t9 := Tryz.underlying9
  a9 := Tryz.isAgg9
  z9 := Tryz.sizeOf9
  v9 := Tryz.zeroValue9
  t46 := Tryz.underlying54
  a46 := Tryz.isAgg54
  z46 := Tryz.sizeOf54
  v46 := Tryz.zeroValue54
  t51 := Tryz.underlying180
  a51 := Tryz.isAgg180
  z51 := Tryz.sizeOf180
  v51 := Tryz.zeroValue180 }
open Go.RowKit Go.Lib in
theorem Tryz.bytealg_hashStr (sep : ByteArray) (hs : sep.size < 4294967281) (w : World) :
    Calls Tryz.prog 200 #[.string sep] w fun e w' => e = .returned (.tuple #[.int .u32 (RK.H sep.data.toList % 4294967296), .int .u32 (16777619 ^ sep.size % 4294967296)]) ∧ w' = w := Any.bytealg_hashStr Tryz.lays314 sep hs w
def Tryz.lays267_ren : Go.Shelf.Ren := ⟨fun | 267 => 191 | 314 => 200 | n => n, fun | 9 => 9 | 3 => 3 | 146 => 218 | 51 => 180 | 4 => 4 | 5 => 5 | 46 => 54 | n => n, fun | n => n⟩
theorem Tryz.lays267 : Go.Proofs.Lays.n267 Tryz.prog Tryz.lays267_ren := {
  mixed := by kernel_rfl
  f267 := Tryz.func191.trans (congrArg some (by kernel_rfl))
  f314 := Tryz.func200.trans (congrArg some (by kernel_rfl))
  t3 := Tryz.underlying3
  a3 := Tryz.isAgg3
  z3 := Tryz.sizeOf3
  v3 := Tryz.zeroValue3
  t4 := Tryz.underlying4
  a4 := Tryz.isAgg4
  z4 := Tryz.sizeOf4
  v4 := Tryz.zeroValue4
  t5 := Tryz.underlying5
  a5 := Tryz.isAgg5
  z5 := Tryz.sizeOf5
  v5 := Tryz.zeroValue5
  t9 := Tryz.underlying9
  a9 := Tryz.isAgg9
  z9 := Tryz.sizeOf9
  v9 := Tryz.zeroValue9
  t46 := Tryz.underlying54
  a46 := Tryz.isAgg54
  z46 := Tryz.sizeOf54
  v46 := Tryz.zeroValue54
  t51 := Tryz.underlying180
  a51 := Tryz.isAgg180
  z51 := Tryz.sizeOf180
  v51 := Tryz.zeroValue180
  t146 := Tryz.underlying218
  a146 := Tryz.isAgg218
  z146 := Tryz.sizeOf218
  v146 := Tryz.zeroValue218 }
open Go.RowKit Go.Lib in
theorem Tryz.bytealg_IndexRabinKarp (s sep : ByteArray) (h1 : 1 ≤ sep.size) (h2 : sep.size ≤ s.size) (hs : s.size < 4294967281) (w : World) :
    Calls Tryz.prog 191 #[.string s, .string sep] w fun e w' => e = .returned (.int .i64 (Lib.index s.data.toList sep.data.toList)) ∧ w' = w := Any.bytealg_IndexRabinKarp Tryz.lays267 s sep h1 h2 hs w
def Tryz.lays219_ren : Go.Shelf.Ren := ⟨fun | 219 => 178 | 217 => 181 | 225 => 189 | 224 => 190 | 267 => 191 | 266 => 196 | 314 => 200 | n => n, fun | 9 => 9 | 3 => 3 | 4 => 4 | 5 => 5 | 46 => 54 | 146 => 218 | 51 => 180 | n => n, fun | 1 => 1 | n => n⟩
theorem Tryz.lays219 : Go.Proofs.Lays.n219 Tryz.prog Tryz.lays219_ren := {
  mixed := by kernel_rfl
  f217 := Tryz.func181.trans (congrArg some (by kernel_rfl))
  f219 := Tryz.func178.trans (congrArg some (by kernel_rfl))
  f224 := Tryz.func190.trans (congrArg some (by kernel_rfl))
  f225 := Tryz.func189.trans (congrArg some (by kernel_rfl))
  f266 := Tryz.func196.trans (congrArg some (by kernel_rfl))
  f267 := Tryz.func191.trans (congrArg some (by kernel_rfl))
  f314 := Tryz.func200.trans (congrArg some (by kernel_rfl))
  t3 := Tryz.underlying3
  a3 := Tryz.isAgg3
  z3 := Tryz.sizeOf3
  v3 := Tryz.zeroValue3
  t4 := Tryz.underlying4
  a4 := Tryz.isAgg4
  z4 := Tryz.sizeOf4
  v4 := Tryz.zeroValue4
  t5 := Tryz.underlying5
  a5 := Tryz.isAgg5
  z5 := Tryz.sizeOf5
  v5 := Tryz.zeroValue5
  t9 := Tryz.underlying9
  a9 := Tryz.isAgg9
  z9 := Tryz.sizeOf9
  v9 := Tryz.zeroValue9
  t46 := Tryz.underlying54
  a46 := Tryz.isAgg54
  z46 := Tryz.sizeOf54
  v46 := Tryz.zeroValue54
  t51 := Tryz.underlying180
  a51 := Tryz.isAgg180
  z51 := Tryz.sizeOf180
  v51 := Tryz.zeroValue180
  t146 := Tryz.underlying218
  a146 := Tryz.isAgg218
  z146 := Tryz.sizeOf218
  v146 := Tryz.zeroValue218
  g1 := by kernel_rfl }
open Go.RowKit Go.Lib in
theorem Tryz.stringslite_Index_one (s : ByteArray) (c : UInt8) (w : World) :
    Calls Tryz.prog 178 #[.string s, .string ⟨#[c]⟩] w fun e w' => e = .returned (.int .i64 (Lib.indexByte s.data.toList c)) ∧ w' = w := Any.stringslite_Index_one Tryz.lays219 s c w
open Go.RowKit Go.Lib in
theorem Tryz.stringslite_Index (s sub : ByteArray) (m : Int) (w : World) (hs : s.size < 4294967281) (hm : w.cell? ⟨1, 0, none⟩ = some (.int .i64 m)) :
    Calls Tryz.prog 178 #[.string s, .string sub] w fun e w' => e = .returned (.int .i64 (Lib.index s.data.toList sub.data.toList)) ∧ w' = w := Any.stringslite_Index Tryz.lays219 s sub m w hs hm
def Tryz.lays143_ren : Go.Shelf.Ren := ⟨fun | 143 => 161 | 219 => 178 | 217 => 181 | 225 => 189 | 224 => 190 | 267 => 191 | 266 => 196 | 314 => 200 | n => n, fun | 9 => 9 | 3 => 3 | 4 => 4 | 5 => 5 | 46 => 54 | 146 => 218 | 51 => 180 | n => n, fun | 1 => 1 | n => n⟩
theorem Tryz.lays143 : Go.Proofs.Lays.n143 Tryz.prog Tryz.lays143_ren := {
  mixed := by kernel_rfl
  f143 := Tryz.func161.trans (congrArg some (by kernel_rfl))
  f217 := Tryz.func181.trans (congrArg some (by kernel_rfl))
  f219 := Tryz.func178.trans (congrArg some (by kernel_rfl))
  f224 := Tryz.func190.trans (congrArg some (by kernel_rfl))
  f225 := Tryz.func189.trans (congrArg some (by kernel_rfl))
  f266 := Tryz.func196.trans (congrArg some (by kernel_rfl))
  f267 := Tryz.func191.trans (congrArg some (by kernel_rfl))
  f314 := Tryz.func200.trans (congrArg some (by kernel_rfl))
  t3 := Tryz.underlying3
  a3 := Tryz.isAgg3
  z3 := Tryz.sizeOf3
  v3 := Tryz.zeroValue3
  t4 := Tryz.underlying4
  a4 := Tryz.isAgg4
  z4 := Tryz.sizeOf4
  v4 := Tryz.zeroValue4
  t5 := Tryz.underlying5
  a5 := Tryz.isAgg5
  z5 := Tryz.sizeOf5
  v5 := Tryz.zeroValue5
  t9 := Tryz.underlying9
  a9 := Tryz.isAgg9
  z9 := Tryz.sizeOf9
  v9 := Tryz.zeroValue9
  t46 := Tryz.underlying54
  a46 := Tryz.isAgg54
  z46 := Tryz.sizeOf54
  v46 := Tryz.zeroValue54
  t51 := Tryz.underlying180
  a51 := Tryz.isAgg180
  z51 := Tryz.sizeOf180
  v51 := Tryz.zeroValue180
  t146 := Tryz.underlying218
  a146 := Tryz.isAgg218
  z146 := Tryz.sizeOf218
  v146 := Tryz.zeroValue218
  g1 := by kernel_rfl }
open Go.RowKit Go.Lib in
theorem Tryz.strings_Index_one (s : ByteArray) (c : UInt8) (w : World) :
    Calls Tryz.prog 161 #[.string s, .string ⟨#[c]⟩] w fun e w' => e = .returned (.int .i64 (Lib.indexByte s.data.toList c)) ∧ w' = w := Any.strings_Index_one Tryz.lays143 s c w
open Go.RowKit Go.Lib in
theorem Tryz.strings_Index (s sub : ByteArray) (m : Int) (w : World) (hs : s.size < 4294967281) (hm : w.cell? ⟨1, 0, none⟩ = some (.int .i64 m)) :
    Calls Tryz.prog 161 #[.string s, .string sub] w fun e w' => e = .returned (.int .i64 (Lib.index s.data.toList sub.data.toList)) ∧ w' = w := Any.strings_Index Tryz.lays143 s sub m w hs hm
def Tryz.lays144_ren : Go.Shelf.Ren := ⟨fun | 144 => 127 | 143 => 161 | 219 => 178 | 217 => 181 | 225 => 189 | 224 => 190 | 267 => 191 | 266 => 196 | 314 => 200 | n => n, fun | 9 => 9 | 4 => 4 | 3 => 3 | 5 => 5 | 46 => 54 | 146 => 218 | 51 => 180 | n => n, fun | 1 => 1 | n => n⟩
theorem Tryz.lays144 : Go.Proofs.Lays.n144 Tryz.prog Tryz.lays144_ren := {
  mixed := by kernel_rfl
  f143 := Tryz.func161.trans (congrArg some (by kernel_rfl))
  f144 := Tryz.func127.trans (congrArg some (by kernel_rfl))
  f217 := Tryz.func181.trans (congrArg some (by kernel_rfl))
  f219 := Tryz.func178.trans (congrArg some (by kernel_rfl))
  f224 := Tryz.func190.trans (congrArg some (by kernel_rfl))
  f225 := Tryz.func189.trans (congrArg some (by kernel_rfl))
  f266 := Tryz.func196.trans (congrArg some (by kernel_rfl))
  f267 := Tryz.func191.trans (congrArg some (by kernel_rfl))
  f314 := Tryz.func200.trans (congrArg some (by kernel_rfl))
  t3 := Tryz.underlying3
  a3 := Tryz.isAgg3
  z3 := Tryz.sizeOf3
  v3 := Tryz.zeroValue3
  t4 := Tryz.underlying4
  a4 := Tryz.isAgg4
  z4 := Tryz.sizeOf4
  v4 := Tryz.zeroValue4
  t5 := Tryz.underlying5
  a5 := Tryz.isAgg5
  z5 := Tryz.sizeOf5
  v5 := Tryz.zeroValue5
  t9 := Tryz.underlying9
  a9 := Tryz.isAgg9
  z9 := Tryz.sizeOf9
  v9 := Tryz.zeroValue9
  t46 := Tryz.underlying54
  a46 := Tryz.isAgg54
  z46 := Tryz.sizeOf54
  v46 := Tryz.zeroValue54
  t51 := Tryz.underlying180
  a51 := Tryz.isAgg180
  z51 := Tryz.sizeOf180
  v51 := Tryz.zeroValue180
  t146 := Tryz.underlying218
  a146 := Tryz.isAgg218
  z146 := Tryz.sizeOf218
  v146 := Tryz.zeroValue218
  g1 := by kernel_rfl }
open Go.RowKit Go.Lib in
theorem Tryz.strings_Contains_one (s : ByteArray) (c : UInt8) (w : World) :
    Calls Tryz.prog 127 #[.string s, .string ⟨#[c]⟩] w fun e w' => e = .returned (.bool (decide (0 ≤ Lib.indexByte s.data.toList c))) ∧ w' = w := Any.strings_Contains_one Tryz.lays144 s c w
open Go.RowKit Go.Lib in
theorem Tryz.strings_Contains (s sub : ByteArray) (m : Int) (w : World) (hs : s.size < 4294967281) (hm : w.cell? ⟨1, 0, none⟩ = some (.int .i64 m)) :
    Calls Tryz.prog 127 #[.string s, .string sub] w fun e w' => e = .returned (.bool (Lib.contains s.data.toList sub.data.toList)) ∧ w' = w := Any.strings_Contains Tryz.lays144 s sub m w hs hm
def Tryz.lays220_ren : Go.Shelf.Ren := ⟨fun | 220 => 158 | 219 => 178 | 217 => 181 | 225 => 189 | 224 => 190 | 267 => 191 | 266 => 196 | 314 => 200 | n => n, fun | 9 => 9 | 4 => 4 | 3 => 3 | 5 => 5 | 46 => 54 | 146 => 218 | 51 => 180 | n => n, fun | 1 => 1 | n => n⟩
theorem Tryz.lays220 : Go.Proofs.Lays.n220 Tryz.prog Tryz.lays220_ren := {
  mixed := by kernel_rfl
  f217 := Tryz.func181.trans (congrArg some (by kernel_rfl))
  f219 := Tryz.func178.trans (congrArg some (by kernel_rfl))
  f220 := Tryz.func158.trans (congrArg some (by kernel_rfl))
  f224 := Tryz.func190.trans (congrArg some (by kernel_rfl))
  f225 := Tryz.func189.trans (congrArg some (by kernel_rfl))
  f266 := Tryz.func196.trans (congrArg some (by kernel_rfl))
  f267 := Tryz.func191.trans (congrArg some (by kernel_rfl))
  f314 := Tryz.func200.trans (congrArg some (by kernel_rfl))
  t3 := Tryz.underlying3
  a3 := Tryz.isAgg3
  z3 := Tryz.sizeOf3
  v3 := Tryz.zeroValue3
  t4 := Tryz.underlying4
  a4 := Tryz.isAgg4
  z4 := Tryz.sizeOf4
  v4 := Tryz.zeroValue4
  t5 := Tryz.underlying5
  a5 := Tryz.isAgg5
  z5 := Tryz.sizeOf5
  v5 := Tryz.zeroValue5
  t9 := Tryz.underlying9
  a9 := Tryz.isAgg9
  z9 := Tryz.sizeOf9
  v9 := Tryz.zeroValue9
  t46 := Tryz.underlying54
  a46 := Tryz.isAgg54
  z46 := Tryz.sizeOf54
  v46 := Tryz.zeroValue54
  t51 := Tryz.underlying180
  a51 := Tryz.isAgg180
  z51 := Tryz.sizeOf180
  v51 := Tryz.zeroValue180
  t146 := Tryz.underlying218
  a146 := Tryz.isAgg218
  z146 := Tryz.sizeOf218
  v146 := Tryz.zeroValue218
  g1 := by kernel_rfl }
open Go.RowKit Go.Lib in
theorem Tryz.stringslite_Cut (s sep : ByteArray) (m : Int) (w : World) (hs : s.size < 4294967281) (hm : w.cell? ⟨1, 0, none⟩ = some (.int .i64 m)) :
    Calls Tryz.prog 158 #[.string s, .string sep] w fun e w' => e = .returned (.tuple #[.string ⟨(Lib.cut s.data.toList sep.data.toList).1.toArray⟩, .string ⟨(Lib.cut s.data.toList sep.data.toList).2.1.toArray⟩, .bool (Lib.cut s.data.toList sep.data.toList).2.2]) ∧ ∃ n, w' = w.drewN n := Any.stringslite_Cut Tryz.lays220 s sep m w hs hm
def Tryz.lays145_ren : Go.Shelf.Ren := ⟨fun | 145 => 123 | 220 => 158 | 219 => 178 | 217 => 181 | 225 => 189 | 224 => 190 | 267 => 191 | 266 => 196 | 314 => 200 | n => n, fun | 9 => 9 | 4 => 4 | 59 => 163 | 3 => 3 | 5 => 5 | 46 => 54 | 146 => 218 | 51 => 180 | n => n, fun | 1 => 1 | n => n⟩
theorem Tryz.lays145 : Go.Proofs.Lays.n145 Tryz.prog Tryz.lays145_ren := {
  mixed := by kernel_rfl
  f145 := Tryz.func123.trans (congrArg some (by kernel_rfl))
  f217 := Tryz.func181.trans (congrArg some (by kernel_rfl))
  f219 := Tryz.func178.trans (congrArg some (by kernel_rfl))
  f220 := Tryz.func158.trans (congrArg some (by kernel_rfl))
  f224 := Tryz.func190.trans (congrArg some (by kernel_rfl))
  f225 := Tryz.func189.trans (congrArg some (by kernel_rfl))
  f266 := Tryz.func196.trans (congrArg some (by kernel_rfl))
  f267 := Tryz.func191.trans (congrArg some (by kernel_rfl))
  f314 := Tryz.func200.trans (congrArg some (by kernel_rfl))
  t3 := Tryz.underlying3
  a3 := Tryz.isAgg3
  z3 := Tryz.sizeOf3
  v3 := Tryz.zeroValue3
  t4 := Tryz.underlying4
  a4 := Tryz.isAgg4
  z4 := Tryz.sizeOf4
  v4 := Tryz.zeroValue4
  t5 := Tryz.underlying5
  a5 := Tryz.isAgg5
  z5 := Tryz.sizeOf5
  v5 := Tryz.zeroValue5
  t9 := Tryz.underlying9
  a9 := Tryz.isAgg9
  z9 := Tryz.sizeOf9
  v9 := Tryz.zeroValue9
  t46 := Tryz.underlying54
  a46 := Tryz.isAgg54
  z46 := Tryz.sizeOf54
  v46 := Tryz.zeroValue54
  t51 := Tryz.underlying180
  a51 := Tryz.isAgg180
  z51 := Tryz.sizeOf180
  v51 := Tryz.zeroValue180
  t59 := Tryz.underlying163
  a59 := Tryz.isAgg163
  z59 := Tryz.sizeOf163
  v59 := Tryz.zeroValue163
  t146 := Tryz.underlying218
  a146 := Tryz.isAgg218
  z146 := Tryz.sizeOf218
  v146 := Tryz.zeroValue218
  g1 := by kernel_rfl }
open Go.RowKit Go.Lib in
theorem Tryz.strings_Cut (s sep : ByteArray) (m : Int) (w : World) (hs : s.size < 4294967281) (hm : w.cell? ⟨1, 0, none⟩ = some (.int .i64 m)) :
    Calls Tryz.prog 123 #[.string s, .string sep] w fun e w' => e = .returned (.tuple #[.string ⟨(Lib.cut s.data.toList sep.data.toList).1.toArray⟩, .string ⟨(Lib.cut s.data.toList sep.data.toList).2.1.toArray⟩, .bool (Lib.cut s.data.toList sep.data.toList).2.2]) ∧ ∃ n, w' = w.drewN n := Any.strings_Cut Tryz.lays145 s sep m w hs hm
def Tryz.laysM219_ren : Go.Shelf.Ren := ⟨fun | 219 => 178 | 217 => 181 | 225 => 189 | 224 => 190 | 267 => 191 | 266 => 196 | 314 => 200 | n => n, fun | 9 => 9 | 3 => 3 | 4 => 4 | 5 => 5 | 46 => 54 | 146 => 218 | 51 => 180 | n => n, fun | 1 => 1 | n => n⟩
theorem Tryz.laysM219 : Go.Proofs.LaysM.n219 Tryz.prog Tryz.laysM219_ren := {
  mixed := by kernel_rfl
  f217 := Tryz.func181.trans (congrArg some (by kernel_rfl))
  f219 := Tryz.func178.trans (congrArg some (by kernel_rfl))
  f224 := Tryz.func190.trans (congrArg some (by kernel_rfl))
  f225 := Tryz.func189.trans (congrArg some (by kernel_rfl))
  f266 := Tryz.func196.trans (congrArg some (by kernel_rfl))
  f267 := Tryz.func191.trans (congrArg some (by kernel_rfl))
  f314 := Tryz.func200.trans (congrArg some (by kernel_rfl))
  t3 := Tryz.underlying3
  a3 := Tryz.isAgg3
  z3 := Tryz.sizeOf3
  v3 := Tryz.zeroValue3
  t4 := Tryz.underlying4
  a4 := Tryz.isAgg4
  z4 := Tryz.sizeOf4
  v4 := Tryz.zeroValue4
  t5 := Tryz.underlying5
  a5 := Tryz.isAgg5
  z5 := Tryz.sizeOf5
  v5 := Tryz.zeroValue5
  t9 := Tryz.underlying9
  a9 := Tryz.isAgg9
  z9 := Tryz.sizeOf9
  v9 := Tryz.zeroValue9
  t46 := Tryz.underlying54
  a46 := Tryz.isAgg54
  z46 := Tryz.sizeOf54
  v46 := Tryz.zeroValue54
  t51 := Tryz.underlying180
  a51 := Tryz.isAgg180
  z51 := Tryz.sizeOf180
  v51 := Tryz.zeroValue180
  t146 := Tryz.underlying218
  a146 := Tryz.isAgg218
  z146 := Tryz.sizeOf218
  v146 := Tryz.zeroValue218
  g1 := by kernel_rfl
  i3 := by kernel_rfl
  i4 := by kernel_rfl
  i5 := by kernel_rfl
  i9 := by kernel_rfl
  i46 := by kernel_rfl
  i51 := by kernel_rfl
  i146 := by kernel_rfl
  m1 := by kernel_rfl
  s1_3 := fun w h => Go.Proofs.cell_of_shapedOpen_int (zero := #[.int .i64 0]) (t := 3) h (of_decide_eq_true (by kernel_rfl)) (by kernel_rfl) rfl (by kernel_rfl) (by kernel_rfl) Tryz.underlying3 }
open Go.RowKit Go.Lib in
theorem Tryz.stringslite_Index_shaped (s sub : ByteArray) (w : World) (h : w.ShapedOpen Tryz.prog) (hs : s.size < 4294967281) :
    Calls Tryz.prog 178 #[.string s, .string sub] w fun e w' => e = .returned (.int .i64 (Lib.index s.data.toList sub.data.toList)) ∧ w' = w := Any.stringslite_Index_shaped Tryz.laysM219 s sub w h hs
def Tryz.laysM143_ren : Go.Shelf.Ren := ⟨fun | 143 => 161 | 219 => 178 | 217 => 181 | 225 => 189 | 224 => 190 | 267 => 191 | 266 => 196 | 314 => 200 | n => n, fun | 9 => 9 | 3 => 3 | 4 => 4 | 5 => 5 | 46 => 54 | 146 => 218 | 51 => 180 | n => n, fun | 1 => 1 | n => n⟩
theorem Tryz.laysM143 : Go.Proofs.LaysM.n143 Tryz.prog Tryz.laysM143_ren := {
  mixed := by kernel_rfl
  f143 := Tryz.func161.trans (congrArg some (by kernel_rfl))
  f217 := Tryz.func181.trans (congrArg some (by kernel_rfl))
  f219 := Tryz.func178.trans (congrArg some (by kernel_rfl))
  f224 := Tryz.func190.trans (congrArg some (by kernel_rfl))
  f225 := Tryz.func189.trans (congrArg some (by kernel_rfl))
  f266 := Tryz.func196.trans (congrArg some (by kernel_rfl))
  f267 := Tryz.func191.trans (congrArg some (by kernel_rfl))
  f314 := Tryz.func200.trans (congrArg some (by kernel_rfl))
  t3 := Tryz.underlying3
  a3 := Tryz.isAgg3
  z3 := Tryz.sizeOf3
  v3 := Tryz.zeroValue3
  t4 := Tryz.underlying4
  a4 := Tryz.isAgg4
  z4 := Tryz.sizeOf4
  v4 := Tryz.zeroValue4
  t5 := Tryz.underlying5
  a5 := Tryz.isAgg5
  z5 := Tryz.sizeOf5
  v5 := Tryz.zeroValue5
  t9 := Tryz.underlying9
  a9 := Tryz.isAgg9
  z9 := Tryz.sizeOf9
  v9 := Tryz.zeroValue9
  t46 := Tryz.underlying54
  a46 := Tryz.isAgg54
  z46 := Tryz.sizeOf54
  v46 := Tryz.zeroValue54
  t51 := Tryz.underlying180
  a51 := Tryz.isAgg180
  z51 := Tryz.sizeOf180
  v51 := Tryz.zeroValue180
  t146 := Tryz.underlying218
  a146 := Tryz.isAgg218
  z146 := Tryz.sizeOf218
  v146 := Tryz.zeroValue218
  g1 := by kernel_rfl
  i3 := by kernel_rfl
  i4 := by kernel_rfl
  i5 := by kernel_rfl
  i9 := by kernel_rfl
  i46 := by kernel_rfl
  i51 := by kernel_rfl
  i146 := by kernel_rfl
  m1 := by kernel_rfl
  s1_3 := fun w h => Go.Proofs.cell_of_shapedOpen_int (zero := #[.int .i64 0]) (t := 3) h (of_decide_eq_true (by kernel_rfl)) (by kernel_rfl) rfl (by kernel_rfl) (by kernel_rfl) Tryz.underlying3 }
open Go.RowKit Go.Lib in
theorem Tryz.strings_Index_shaped (s sub : ByteArray) (w : World) (h : w.ShapedOpen Tryz.prog) (hs : s.size < 4294967281) :
    Calls Tryz.prog 161 #[.string s, .string sub] w fun e w' => e = .returned (.int .i64 (Lib.index s.data.toList sub.data.toList)) ∧ w' = w := Any.strings_Index_shaped Tryz.laysM143 s sub w h hs
def Tryz.laysM144_ren : Go.Shelf.Ren := ⟨fun | 144 => 127 | 143 => 161 | 219 => 178 | 217 => 181 | 225 => 189 | 224 => 190 | 267 => 191 | 266 => 196 | 314 => 200 | n => n, fun | 9 => 9 | 4 => 4 | 3 => 3 | 5 => 5 | 46 => 54 | 146 => 218 | 51 => 180 | n => n, fun | 1 => 1 | n => n⟩
theorem Tryz.laysM144 : Go.Proofs.LaysM.n144 Tryz.prog Tryz.laysM144_ren := {
  mixed := by kernel_rfl
  f143 := Tryz.func161.trans (congrArg some (by kernel_rfl))
  f144 := Tryz.func127.trans (congrArg some (by kernel_rfl))
  f217 := Tryz.func181.trans (congrArg some (by kernel_rfl))
  f219 := Tryz.func178.trans (congrArg some (by kernel_rfl))
  f224 := Tryz.func190.trans (congrArg some (by kernel_rfl))
  f225 := Tryz.func189.trans (congrArg some (by kernel_rfl))
  f266 := Tryz.func196.trans (congrArg some (by kernel_rfl))
  f267 := Tryz.func191.trans (congrArg some (by kernel_rfl))
  f314 := Tryz.func200.trans (congrArg some (by kernel_rfl))
  t3 := Tryz.underlying3
  a3 := Tryz.isAgg3
  z3 := Tryz.sizeOf3
  v3 := Tryz.zeroValue3
  t4 := Tryz.underlying4
  a4 := Tryz.isAgg4
  z4 := Tryz.sizeOf4
  v4 := Tryz.zeroValue4
  t5 := Tryz.underlying5
  a5 := Tryz.isAgg5
  z5 := Tryz.sizeOf5
  v5 := Tryz.zeroValue5
  t9 := Tryz.underlying9
  a9 := Tryz.isAgg9
  z9 := Tryz.sizeOf9
  v9 := Tryz.zeroValue9
  t46 := Tryz.underlying54
  a46 := Tryz.isAgg54
  z46 := Tryz.sizeOf54
  v46 := Tryz.zeroValue54
  t51 := Tryz.underlying180
  a51 := Tryz.isAgg180
  z51 := Tryz.sizeOf180
  v51 := Tryz.zeroValue180
  t146 := Tryz.underlying218
  a146 := Tryz.isAgg218
  z146 := Tryz.sizeOf218
  v146 := Tryz.zeroValue218
  g1 := by kernel_rfl
  i3 := by kernel_rfl
  i4 := by kernel_rfl
  i5 := by kernel_rfl
  i9 := by kernel_rfl
  i46 := by kernel_rfl
  i51 := by kernel_rfl
  i146 := by kernel_rfl
  m1 := by kernel_rfl
  s1_3 := fun w h => Go.Proofs.cell_of_shapedOpen_int (zero := #[.int .i64 0]) (t := 3) h (of_decide_eq_true (by kernel_rfl)) (by kernel_rfl) rfl (by kernel_rfl) (by kernel_rfl) Tryz.underlying3 }
open Go.RowKit Go.Lib in
theorem Tryz.strings_Contains_shaped (s sub : ByteArray) (w : World) (h : w.ShapedOpen Tryz.prog) (hs : s.size < 4294967281) :
    Calls Tryz.prog 127 #[.string s, .string sub] w fun e w' => e = .returned (.bool (Lib.contains s.data.toList sub.data.toList)) ∧ w' = w := Any.strings_Contains_shaped Tryz.laysM144 s sub w h hs
def Tryz.laysM220_ren : Go.Shelf.Ren := ⟨fun | 220 => 158 | 219 => 178 | 217 => 181 | 225 => 189 | 224 => 190 | 267 => 191 | 266 => 196 | 314 => 200 | n => n, fun | 9 => 9 | 4 => 4 | 3 => 3 | 5 => 5 | 46 => 54 | 146 => 218 | 51 => 180 | n => n, fun | 1 => 1 | n => n⟩
theorem Tryz.laysM220 : Go.Proofs.LaysM.n220 Tryz.prog Tryz.laysM220_ren := {
  mixed := by kernel_rfl
  f217 := Tryz.func181.trans (congrArg some (by kernel_rfl))
  f219 := Tryz.func178.trans (congrArg some (by kernel_rfl))
  f220 := Tryz.func158.trans (congrArg some (by kernel_rfl))
  f224 := Tryz.func190.trans (congrArg some (by kernel_rfl))
  f225 := Tryz.func189.trans (congrArg some (by kernel_rfl))
  f266 := Tryz.func196.trans (congrArg some (by kernel_rfl))
  f267 := Tryz.func191.trans (congrArg some (by kernel_rfl))
  f314 := Tryz.func200.trans (congrArg some (by kernel_rfl))
  t3 := Tryz.underlying3
  a3 := Tryz.isAgg3
  z3 := Tryz.sizeOf3
  v3 := Tryz.zeroValue3
  t4 := Tryz.underlying4
  a4 := Tryz.isAgg4
  z4 := Tryz.sizeOf4
  v4 := Tryz.zeroValue4
  t5 := Tryz.underlying5
  a5 := Tryz.isAgg5
  z5 := Tryz.sizeOf5
  v5 := Tryz.zeroValue5
  t9 := Tryz.underlying9
  a9 := Tryz.isAgg9
  z9 := Tryz.sizeOf9
  v9 := Tryz.zeroValue9
  t46 := Tryz.underlying54
  a46 := Tryz.isAgg54
  z46 := Tryz.sizeOf54
  v46 := Tryz.zeroValue54
  t51 := Tryz.underlying180
  a51 := Tryz.isAgg180
  z51 := Tryz.sizeOf180
  v51 := Tryz.zeroValue180
  t146 := Tryz.underlying218
  a146 := Tryz.isAgg218
  z146 := Tryz.sizeOf218
  v146 := Tryz.zeroValue218
  g1 := by kernel_rfl
  i3 := by kernel_rfl
  i4 := by kernel_rfl
  i5 := by kernel_rfl
  i9 := by kernel_rfl
  i46 := by kernel_rfl
  i51 := by kernel_rfl
  i146 := by kernel_rfl
  m1 := by kernel_rfl
  s1_3 := fun w h => Go.Proofs.cell_of_shapedOpen_int (zero := #[.int .i64 0]) (t := 3) h (of_decide_eq_true (by kernel_rfl)) (by kernel_rfl) rfl (by kernel_rfl) (by kernel_rfl) Tryz.underlying3 }
open Go.RowKit Go.Lib in
theorem Tryz.stringslite_Cut_shaped (s sep : ByteArray) (w : World) (h : w.ShapedOpen Tryz.prog) (hs : s.size < 4294967281) :
    Calls Tryz.prog 158 #[.string s, .string sep] w fun e w' => e = .returned (.tuple #[.string ⟨(Lib.cut s.data.toList sep.data.toList).1.toArray⟩, .string ⟨(Lib.cut s.data.toList sep.data.toList).2.1.toArray⟩, .bool (Lib.cut s.data.toList sep.data.toList).2.2]) ∧ ∃ n, w' = w.drewN n := Any.stringslite_Cut_shaped Tryz.laysM220 s sep w h hs
def Tryz.laysM145_ren : Go.Shelf.Ren := ⟨fun | 145 => 123 | 220 => 158 | 219 => 178 | 217 => 181 | 225 => 189 | 224 => 190 | 267 => 191 | 266 => 196 | 314 => 200 | n => n, fun | 9 => 9 | 4 => 4 | 59 => 163 | 3 => 3 | 5 => 5 | 46 => 54 | 146 => 218 | 51 => 180 | n => n, fun | 1 => 1 | n => n⟩
theorem Tryz.laysM145 : Go.Proofs.LaysM.n145 Tryz.prog Tryz.laysM145_ren := {
  mixed := by kernel_rfl
  f145 := Tryz.func123.trans (congrArg some (by kernel_rfl))
  f217 := Tryz.func181.trans (congrArg some (by kernel_rfl))
  f219 := Tryz.func178.trans (congrArg some (by kernel_rfl))
  f220 := Tryz.func158.trans (congrArg some (by kernel_rfl))
  f224 := Tryz.func190.trans (congrArg some (by kernel_rfl))
  f225 := Tryz.func189.trans (congrArg some (by kernel_rfl))
  f266 := Tryz.func196.trans (congrArg some (by kernel_rfl))
  f267 := Tryz.func191.trans (congrArg some (by kernel_rfl))
  f314 := Tryz.func200.trans (congrArg some (by kernel_rfl))
  t3 := Tryz.underlying3
  a3 := Tryz.isAgg3
  z3 := Tryz.sizeOf3
  v3 := Tryz.zeroValue3
  t4 := Tryz.underlying4
  a4 := Tryz.isAgg4
  z4 := Tryz.sizeOf4
  v4 := Tryz.zeroValue4
  t5 := Tryz.underlying5
  a5 := Tryz.isAgg5
  z5 := Tryz.sizeOf5
  v5 := Tryz.zeroValue5
  t9 := Tryz.underlying9
  a9 := Tryz.isAgg9
  z9 := Tryz.sizeOf9
  v9 := Tryz.zeroValue9
  t46 := Tryz.underlying54
  a46 := Tryz.isAgg54
  z46 := Tryz.sizeOf54
  v46 := Tryz.zeroValue54
  t51 := Tryz.underlying180
  a51 := Tryz.isAgg180
  z51 := Tryz.sizeOf180
  v51 := Tryz.zeroValue180
  t59 := Tryz.underlying163
  a59 := Tryz.isAgg163
  z59 := Tryz.sizeOf163
  v59 := Tryz.zeroValue163
  t146 := Tryz.underlying218
  a146 := Tryz.isAgg218
  z146 := Tryz.sizeOf218
  v146 := Tryz.zeroValue218
  g1 := by kernel_rfl
  i3 := by kernel_rfl
  i4 := by kernel_rfl
  i5 := by kernel_rfl
  i9 := by kernel_rfl
  i46 := by kernel_rfl
  i51 := by kernel_rfl
  i59 := by kernel_rfl
  i146 := by kernel_rfl
  m1 := by kernel_rfl
  s1_3 := fun w h => Go.Proofs.cell_of_shapedOpen_int (zero := #[.int .i64 0]) (t := 3) h (of_decide_eq_true (by kernel_rfl)) (by kernel_rfl) rfl (by kernel_rfl) (by kernel_rfl) Tryz.underlying3 }
open Go.RowKit Go.Lib in
theorem Tryz.strings_Cut_shaped (s sep : ByteArray) (w : World) (h : w.ShapedOpen Tryz.prog) (hs : s.size < 4294967281) :
    Calls Tryz.prog 123 #[.string s, .string sep] w fun e w' => e = .returned (.tuple #[.string ⟨(Lib.cut s.data.toList sep.data.toList).1.toArray⟩, .string ⟨(Lib.cut s.data.toList sep.data.toList).2.1.toArray⟩, .bool (Lib.cut s.data.toList sep.data.toList).2.2]) ∧ ∃ n, w' = w.drewN n := Any.strings_Cut_shaped Tryz.laysM145 s sep w h hs
def Tryz.lays190_ren : Go.Shelf.Ren := ⟨fun | 190 => 55 | 125 => 107 | 258 => 106 | 128 => 146 | 129 => 147 | 302 => 137 | 303 => 138 | 304 => 139 | 305 => 140 | 306 => 141 | 307 => 142 | 308 => 143 | 309 => 144 | 310 => 145 | 333 => 163 | 329 => 164 | 330 => 165 | 334 => 166 | 335 => 167 | 336 => 168 | 344 => 180 | n => n, fun | 31 => 51 | 9 => 9 | 3 => 3 | 46 => 54 | 0 => 0 | 51 => 180 | 53 => 69 | 4 => 4 | 183 => 174 | 182 => 173 | 131 => 112 | 5 => 5 | 218 => 191 | 222 => 195 | 228 => 205 | 229 => 121 | n => n, fun | n => n⟩
theorem Tryz.lays190 : Go.Proofs.Lays.n190 Tryz.prog Tryz.lays190_ren := {
  mixed := by kernel_rfl
  f125 := Tryz.func107.trans (congrArg some (by kernel_rfl))
  f128 := Tryz.func146.trans (congrArg some (by kernel_rfl))
  f129 := Tryz.func147.trans (congrArg some (by kernel_rfl))
  f190 := Tryz.func55.trans (congrArg some (by kernel_rfl))
  f258 := Tryz.func106.trans (congrArg some (by kernel_rfl))
  f302 := Tryz.func137.trans (congrArg some (by kernel_rfl))
  f303 := Tryz.func138.trans (congrArg some (by kernel_rfl))
  f304 := Tryz.func139.trans (congrArg some (by kernel_rfl))
  f305 := Tryz.func140.trans (congrArg some (by kernel_rfl))
  f306 := Tryz.func141.trans (congrArg some (by kernel_rfl))
  f307 := Tryz.func142.trans (congrArg some (by kernel_rfl))
  f308 := Tryz.func143.trans (congrArg some (by kernel_rfl))
  f309 := Tryz.func144.trans (congrArg some (by kernel_rfl))
  f310 := Tryz.func145.trans (congrArg some (by kernel_rfl))
  f329 := Tryz.func164.trans (congrArg some (by kernel_rfl))
  f330 := Tryz.func165.trans (congrArg some (by kernel_rfl))
  f333 := Tryz.func163.trans (congrArg some (by kernel_rfl))
  f334 := Tryz.func166.trans (congrArg some (by kernel_rfl))
  f335 := Tryz.func167.trans (congrArg some (by kernel_rfl))
  f336 := Tryz.func168.trans (congrArg some (by kernel_rfl))
  f344 := Tryz.func180.trans (congrArg some (by kernel_rfl))
  t0 := Tryz.underlying0
  a0 := Tryz.isAgg0
  z0 := Tryz.sizeOf0
  v0 := Tryz.zeroValue0
  t3 := Tryz.underlying3
  a3 := Tryz.isAgg3
  z3 := Tryz.sizeOf3
  v3 := Tryz.zeroValue3
  t4 := Tryz.underlying4
  a4 := Tryz.isAgg4
  z4 := Tryz.sizeOf4
  v4 := Tryz.zeroValue4
  t5 := Tryz.underlying5
  a5 := Tryz.isAgg5
  z5 := Tryz.sizeOf5
  v5 := Tryz.zeroValue5
  t9 := Tryz.underlying9
  a9 := Tryz.isAgg9
  z9 := Tryz.sizeOf9
  v9 := Tryz.zeroValue9
  t31 := Tryz.underlying51
  a31 := Tryz.isAgg51
  z31 := Tryz.sizeOf51
  v31 := Tryz.zeroValue51
  t46 := Tryz.underlying54
  a46 := Tryz.isAgg54
  z46 := Tryz.sizeOf54
  v46 := Tryz.zeroValue54
  t51 := Tryz.underlying180
  a51 := Tryz.isAgg180
  z51 := Tryz.sizeOf180
  v51 := Tryz.zeroValue180
  t53 := Tryz.underlying69
  a53 := Tryz.isAgg69
  z53 := Tryz.sizeOf69
  v53 := Tryz.zeroValue69
  t131 := Tryz.underlying112
  a131 := Tryz.isAgg112
  z131 := Tryz.sizeOf112
  v131 := Tryz.zeroValue112
  t182 := Tryz.underlying173
  a182 := Tryz.isAgg173
  z182 := Tryz.sizeOf173
  v182 := Tryz.zeroValue173
  t183 := Tryz.underlying174
  a183 := Tryz.isAgg174
  z183 := Tryz.sizeOf174
  v183 := Tryz.zeroValue174
  t218 := Tryz.underlying191
  a218 := Tryz.isAgg191
  z218 := Tryz.sizeOf191
  v218 := Tryz.zeroValue191
  t222 := Tryz.underlying195
  a222 := Tryz.isAgg195
  z222 := Tryz.sizeOf195
  v222 := Tryz.zeroValue195
  t228 := Tryz.underlying205
  a228 := Tryz.isAgg205
  z228 := Tryz.sizeOf205
  v228 := Tryz.zeroValue205
  t229 := Tryz.underlying121
  a229 := Tryz.isAgg121
  z229 := Tryz.sizeOf121
  v229 := Tryz.zeroValue121 }
open Go.Sort Go.RowKit in
theorem Tryz.slices_Sort_string (blk off cap : Nat) (ss : List (List UInt8)) (w : World) (hH : Holds encStr w blk off ss.toArray) (hblk : blk < w.heap.size) (hsz : ss.length < 4611686018427387904) :
    Calls Tryz.prog 55 #[.slice (some ⟨blk, off, none⟩) ss.length cap] w fun e w' =>
      e = .returned (.tuple #[]) ∧ ∃ n os, w' = grow (putRow encStr (Sort.ahead w n) blk off (ss.mergeSort fun x y => decide (x ≤ y)).toArray) os := Any.slices_Sort_string Tryz.lays190 blk off cap ss w hH hblk hsz
def Tryz.lays206_ren : Go.Shelf.Ren := ⟨fun | 206 => 157 | n => n, fun | 9 => 9 | 4 => 4 | 3 => 3 | n => n, fun | n => n⟩
theorem Tryz.lays206 : Go.Proofs.Lays.n206 Tryz.prog Tryz.lays206_ren := {
  mixed := by kernel_rfl
  f206 := Tryz.func157.trans (congrArg some (by kernel_rfl))
  t3 := Tryz.underlying3
  a3 := Tryz.isAgg3
  z3 := Tryz.sizeOf3
  v3 := Tryz.zeroValue3
  t4 := Tryz.underlying4
  a4 := Tryz.isAgg4
  z4 := Tryz.sizeOf4
  v4 := Tryz.zeroValue4
  t9 := Tryz.underlying9
  a9 := Tryz.isAgg9
  z9 := Tryz.sizeOf9
  v9 := Tryz.zeroValue9 }
open Go.RowKit Go.Lib in
theorem Tryz.stringslite_HasPrefix (s p : ByteArray) (w : World) :
    Calls Tryz.prog 157 #[.string s, .string p] w fun e w' => e = .returned (.bool (Lib.hasPrefix s.data.toList p.data.toList)) ∧ w' = w := Any.stringslite_HasPrefix Tryz.lays206 s p w
def Tryz.lays99_ren : Go.Shelf.Ren := ⟨fun | 99 => 122 | 206 => 157 | n => n, fun | 9 => 9 | 4 => 4 | 3 => 3 | n => n, fun | n => n⟩
theorem Tryz.lays99 : Go.Proofs.Lays.n99 Tryz.prog Tryz.lays99_ren := {
  mixed := by kernel_rfl
  f99 := Tryz.func122.trans (congrArg some (by kernel_rfl))
  f206 := Tryz.func157.trans (congrArg some (by kernel_rfl))
  t3 := Tryz.underlying3
  a3 := Tryz.isAgg3
  z3 := Tryz.sizeOf3
  v3 := Tryz.zeroValue3
  t4 := Tryz.underlying4
  a4 := Tryz.isAgg4
  z4 := Tryz.sizeOf4
  v4 := Tryz.zeroValue4
  t9 := Tryz.underlying9
  a9 := Tryz.isAgg9
  z9 := Tryz.sizeOf9
  v9 := Tryz.zeroValue9 }
open Go.RowKit Go.Lib in
theorem Tryz.strings_HasPrefix (s p : ByteArray) (w : World) :
    Calls Tryz.prog 122 #[.string s, .string p] w fun e w' => e = .returned (.bool (Lib.hasPrefix s.data.toList p.data.toList)) ∧ w' = w := Any.strings_HasPrefix Tryz.lays99 s p w
def Tryz.lays109_ren : Go.Shelf.Ren := ⟨fun | 109 => 82 | n => n, fun | 31 => 51 | 9 => 9 | 3 => 3 | 0 => 0 | 4 => 4 | n => n, fun | n => n⟩
theorem Tryz.lays109 : Go.Proofs.Lays.n109 Tryz.prog Tryz.lays109_ren := {
  mixed := by kernel_rfl
  f109 := Tryz.func82.trans (congrArg some (by kernel_rfl))
  t0 := Tryz.underlying0
  a0 := Tryz.isAgg0
  z0 := Tryz.sizeOf0
  v0 := Tryz.zeroValue0
  t3 := Tryz.underlying3
  a3 := Tryz.isAgg3
  z3 := Tryz.sizeOf3
  v3 := Tryz.zeroValue3
  t4 := Tryz.underlying4
  a4 := Tryz.isAgg4
  z4 := Tryz.sizeOf4
  v4 := Tryz.zeroValue4
  t9 := Tryz.underlying9
  a9 := Tryz.isAgg9
  z9 := Tryz.sizeOf9
  v9 := Tryz.zeroValue9
  t31 := Tryz.underlying51
  a31 := Tryz.isAgg51
  z31 := Tryz.sizeOf51
  v31 := Tryz.zeroValue51 }
open Go.Lib in
theorem Tryz.slices_Index_string (b off n c : Nat) (zs : List ByteArray) (x : ByteArray) (w : World) (hz : n ≤ zs.length) (hbig : n ≤ 9223372036854775807) (hc : ∀ j, j < zs.length → w.cell? ⟨b, off + j, none⟩ = some (.string (zs.getD j ByteArray.empty))) :
    Calls Tryz.prog 82 #[.slice (some ⟨b, off, none⟩) n c, .string x] w fun e w' => e = .returned (.int .i64 (Lib.idxOfS (zs.take n) x)) ∧ w' = w := Any.slices_Index_string Tryz.lays109 b off n c zs x w hz hbig hc
open Go.Lib in
theorem Tryz.slices_Index_string_empty (a : Option Addr) (c : Nat) (x : ByteArray) (w : World) :
    Calls Tryz.prog 82 #[.slice a 0 c, .string x] w fun e w' => e = .returned (.int .i64 (Lib.idxOfS [] x)) ∧ w' = w := Any.slices_Index_string_empty Tryz.lays109 a c x w
def Tryz.lays110_ren : Go.Shelf.Ren := ⟨fun | 110 => 41 | 109 => 82 | n => n, fun | 31 => 51 | 9 => 9 | 4 => 4 | 3 => 3 | 0 => 0 | n => n, fun | n => n⟩
theorem Tryz.lays110 : Go.Proofs.Lays.n110 Tryz.prog Tryz.lays110_ren := {
  mixed := by kernel_rfl
  f109 := Tryz.func82.trans (congrArg some (by kernel_rfl))
  f110 := Tryz.func41.trans (congrArg some (by kernel_rfl))
  t0 := Tryz.underlying0
  a0 := Tryz.isAgg0
  z0 := Tryz.sizeOf0
  v0 := Tryz.zeroValue0
  t3 := Tryz.underlying3
  a3 := Tryz.isAgg3
  z3 := Tryz.sizeOf3
  v3 := Tryz.zeroValue3
  t4 := Tryz.underlying4
  a4 := Tryz.isAgg4
  z4 := Tryz.sizeOf4
  v4 := Tryz.zeroValue4
  t9 := Tryz.underlying9
  a9 := Tryz.isAgg9
  z9 := Tryz.sizeOf9
  v9 := Tryz.zeroValue9
  t31 := Tryz.underlying51
  a31 := Tryz.isAgg51
  z31 := Tryz.sizeOf51
  v31 := Tryz.zeroValue51 }
open Go.Lib in
theorem Tryz.slices_Contains_string (b off n c : Nat) (zs : List ByteArray) (x : ByteArray) (w : World) (hz : n ≤ zs.length) (hbig : n ≤ 9223372036854775807) (hc : ∀ j, j < zs.length → w.cell? ⟨b, off + j, none⟩ = some (.string (zs.getD j ByteArray.empty))) :
    Calls Tryz.prog 41 #[.slice (some ⟨b, off, none⟩) n c, .string x] w fun e w' => e = .returned (.bool (Lib.containsS (zs.take n) x)) ∧ w' = w := Any.slices_Contains_string Tryz.lays110 b off n c zs x w hz hbig hc
open Go.Lib in
theorem Tryz.slices_Contains_string_empty (a : Option Addr) (c : Nat) (x : ByteArray) (w : World) :
    Calls Tryz.prog 41 #[.slice a 0 c, .string x] w fun e w' => e = .returned (.bool false) ∧ w' = w := Any.slices_Contains_string_empty Tryz.lays110 a c x w
def Tryz.laysNm215_ren : Go.Shelf.Ren := ⟨fun | 15 => 133 | n => n, fun | 22 => 32 | 3 => 3 | 4 => 4 | n => n, fun | n => n⟩
theorem Tryz.laysNm215 : Go.Proofs.Lays2.n15 Tryz.prog Tryz.laysNm215_ren := {
  mixed := by kernel_rfl
  f15 := Tryz.func133.trans (congrArg some (by kernel_rfl))
  t3 := Tryz.underlying3
  a3 := Tryz.isAgg3
  z3 := Tryz.sizeOf3
  v3 := Tryz.zeroValue3
  t4 := Tryz.underlying4
  a4 := Tryz.isAgg4
  z4 := Tryz.sizeOf4
  v4 := Tryz.zeroValue4
  t22 := Tryz.underlying32
  a22 := Tryz.isAgg32
  z22 := Tryz.sizeOf32
  v22 := Tryz.zeroValue32
  i3 := by kernel_rfl }
open Go.RowKit Go.Lib in
theorem Tryz.slices_Clone_int (b off n c : Nat) (zs : List Int) (w : World) (hz : n ≤ zs.length) (hbig : n * 8 ≤ 140737488355328) (hc : ∀ j, j < zs.length → w.cell? ⟨b, off + j, none⟩ = some (.int .i64 (zs.getD j 0))) :
    Calls Tryz.prog 133 #[.slice (some ⟨b, off, none⟩) n c] w fun e w' => ∃ v', e = .returned v' ∧ w'.ownsRow w.heap.size 3 1 v' n ((zs.take n).map (Value.int .i64)) ∧ v' ≠ .slice none 0 0 ∧ Below w.heap.size w w' := Any.slices_Clone_int Tryz.laysNm215 b off n c zs w hz hbig hc
open Go.RowKit Go.Lib in
theorem Tryz.slices_Clone_int_nil (n c : Nat) (w : World) :
    Calls Tryz.prog 133 #[.slice none n c] w fun e w' => e = .returned (.slice none 0 0) ∧ w' = w := Any.slices_Clone_int_nil Tryz.laysNm215 n c w
open Go.RowKit Go.Lib in
theorem Tryz.slices_Clone_int_zero (a : Addr) (c : Nat) (w : World) :
    Calls Tryz.prog 133 #[.slice (some a) 0 c] w fun e w' => ∃ v', e = .returned v' ∧ w'.ownsRow w.heap.size 3 1 v' 0 [] ∧ v' ≠ .slice none 0 0 ∧ Below w.heap.size w w' := Any.slices_Clone_int_zero Tryz.laysNm215 a c w
def Tryz.lays194_ren : Go.Shelf.Ren := ⟨fun | 194 => 56 | n => n, fun | 31 => 51 | 9 => 9 | 3 => 3 | 4 => 4 | 0 => 0 | n => n, fun | n => n⟩
theorem Tryz.lays194 : Go.Proofs.Lays.n194 Tryz.prog Tryz.lays194_ren := {
  mixed := by kernel_rfl
  f194 := Tryz.func56.trans (congrArg some (by kernel_rfl))
  t0 := Tryz.underlying0
  a0 := Tryz.isAgg0
  z0 := Tryz.sizeOf0
  v0 := Tryz.zeroValue0
  t3 := Tryz.underlying3
  a3 := Tryz.isAgg3
  z3 := Tryz.sizeOf3
  v3 := Tryz.zeroValue3
  t4 := Tryz.underlying4
  a4 := Tryz.isAgg4
  z4 := Tryz.sizeOf4
  v4 := Tryz.zeroValue4
  t9 := Tryz.underlying9
  a9 := Tryz.isAgg9
  z9 := Tryz.sizeOf9
  v9 := Tryz.zeroValue9
  t31 := Tryz.underlying51
  a31 := Tryz.isAgg51
  z31 := Tryz.sizeOf51
  v31 := Tryz.zeroValue51 }
open Go.RowKit Go.Lib Go.Sort in
theorem Tryz.slices_Compact_string_arr (blk off cap : Nat) (d : Array (List UInt8)) (w : World) (hH : Holds encStr w blk off d) (hsz : d.size ≤ 9223372036854775807) (hcap : d.size ≤ cap) :
    Calls Tryz.prog 56 #[.slice (some ⟨blk, off, none⟩) d.size cap] w fun e w' => e = .returned (.slice (some ⟨blk, off, none⟩) (compactUpTo d d.size).length cap) ∧ ∃ q, w' = putRow encStr (Sort.ahead w q) blk off (compactUpTo d d.size ++ List.replicate (d.size - (compactUpTo d d.size).length) []).toArray := Any.slices_Compact_string_arr Tryz.lays194 blk off cap d w hH hsz hcap
open Go.RowKit Go.Lib Go.Sort in
theorem Tryz.slices_Compact_string (blk off cap : Nat) (zs : List (List UInt8)) (w : World) (hH : Holds encStr w blk off zs.toArray) (hsz : zs.length ≤ 9223372036854775807) (hcap : zs.length ≤ cap) :
    Calls Tryz.prog 56 #[.slice (some ⟨blk, off, none⟩) zs.length cap] w fun e w' => e = .returned (.slice (some ⟨blk, off, none⟩) (Lib.compact zs).length cap) ∧ ∃ q, w' = putRow encStr (Sort.ahead w q) blk off (Lib.compact zs ++ List.replicate (zs.length - (Lib.compact zs).length) []).toArray := Any.slices_Compact_string Tryz.lays194 blk off cap zs w hH hsz hcap
open Go.RowKit Go.Lib Go.Sort in
theorem Tryz.slices_Compact_string_empty (a : Option Addr) (cap : Nat) (w : World) :
    Calls Tryz.prog 56 #[.slice a 0 cap] w fun e w' => e = .returned (.slice a 0 cap) ∧ w' = w := Any.slices_Compact_string_empty Tryz.lays194 a cap w
open Go.RowKit Go.Lib Go.Sort in
theorem Tryz.slices_Compact_string_cells (b off n c : Nat) (Sx : Nat → ByteArray) (w : World) (hbig : n ≤ 9223372036854775807) (hcap : n ≤ c) (hc : ∀ i, i < n → w.cell? ⟨b, off + i, none⟩ = some (.string (Sx i))) (hf : ∀ j, j < n → w.frozen? ⟨b, off + j, none⟩ = false) :
    Calls Tryz.prog 56 #[.slice (some ⟨b, off, none⟩) n c] w fun e w' => e = .returned (.slice (some ⟨b, off, none⟩) (Lib.compact (Lib.strsOf Sx n)).length c) ∧ ∃ q, w' = (w.drewN q).setCells b off ((Lib.compact (Lib.strsOf Sx n) ++ List.replicate (n - (Lib.compact (Lib.strsOf Sx n)).length) []).map encStr) := Any.slices_Compact_string_cells Tryz.lays194 b off n c Sx w hbig hcap hc hf
open Go.RowKit Go.Sort in
theorem Tryz.slices_Sort_string_none (p : Option Addr) (cap : Nat) (w : World) :
    Calls Tryz.prog 55 #[.slice p 0 cap] w fun e w' => e = .returned (.tuple #[]) ∧ w' = w := Any.slices_Sort_string_none Tryz.lays190 p cap w
def Tryz.laysSlE43_f56_ren : Go.Shelf.Ren := ⟨fun | 43 => 56 | n => n, fun | 22 => 51 | 23 => 9 | 3 => 3 | 4 => 4 | 0 => 0 | n => n, fun | n => n⟩
theorem Tryz.laysSlE43_f56 : Go.Proofs.SlLaysE.n43 Tryz.prog Tryz.laysSlE43_f56_ren := {
  mixed := by kernel_rfl
  f43 := ⟨Tryz.f56.name, by decide, Tryz.func56.trans (congrArg some (by kernel_rfl))⟩
  t0 := Tryz.underlying0
  a0 := Tryz.isAgg0
  z0 := Tryz.sizeOf0
  v0 := Tryz.zeroValue0
  t3 := Tryz.underlying3
  a3 := Tryz.isAgg3
  z3 := Tryz.sizeOf3
  v3 := Tryz.zeroValue3
  t4 := Tryz.underlying4
  a4 := Tryz.isAgg4
  z4 := Tryz.sizeOf4
  v4 := Tryz.zeroValue4
  t22 := Tryz.underlying51
  a22 := Tryz.isAgg51
  z22 := Tryz.sizeOf51
  v22 := Tryz.zeroValue51
  a23 := Tryz.isAgg9
  z23 := Tryz.sizeOf9 }
open Go.RowKit Go.Lib Go.Sort in
theorem Tryz.slices_Compact {α : Type} [Inhabited α] [DecidableEq α] (enc : α → Value) (hO : OneCell enc) (heq : EqlAt Tryz.prog 9 enc (fun x y => decide (x = y))) (hne : NeqAt Tryz.prog 9 enc (fun x y => decide (x = y))) (zr : α) (v23 : ∀ w, (zeroValue 9).run Tryz.prog w = .ok (enc zr) w) (blk off cap : Nat) (d : Array α) (w : World) (hH : Holds enc w blk off d) (hsz : d.size ≤ 9223372036854775807) (hcap : d.size ≤ cap) :
    Calls Tryz.prog 56 #[.slice (some ⟨blk, off, none⟩) d.size cap] w fun e w' => e = .returned (.slice (some ⟨blk, off, none⟩) (compactUpTo d d.size).length cap) ∧ ∃ q, w' = putRow enc (Sort.ahead w q) blk off (compactUpTo d d.size ++ List.replicate (d.size - (compactUpTo d d.size).length) zr).toArray := AnyE.slices_Compact Tryz.laysSlE43_f56 enc hO heq hne zr v23 blk off cap d w hH hsz hcap
def Tryz.laysSlH6_f125_ren : Go.Shelf.Ren := ⟨fun | 6 => 125 | n => n, fun | 22 => 51 | 23 => 9 | 25 => 82 | 3 => 3 | 0 => 0 | 4 => 4 | n => n, fun | n => n⟩
theorem Tryz.laysSlH6_f125 : Go.Proofs.SlLaysH.n6 Tryz.prog Tryz.laysSlH6_f125_ren := {
  mixed := by kernel_rfl
  f6 := ⟨Tryz.f125.name, by decide, Tryz.func125.trans (congrArg some (by kernel_rfl))⟩
  t0 := Tryz.underlying0
  a0 := Tryz.isAgg0
  z0 := Tryz.sizeOf0
  v0 := Tryz.zeroValue0
  t3 := Tryz.underlying3
  a3 := Tryz.isAgg3
  z3 := Tryz.sizeOf3
  v3 := Tryz.zeroValue3
  t4 := Tryz.underlying4
  a4 := Tryz.isAgg4
  z4 := Tryz.sizeOf4
  v4 := Tryz.zeroValue4
  t22 := Tryz.underlying51
  a22 := Tryz.isAgg51
  z22 := Tryz.sizeOf51
  v22 := Tryz.zeroValue51
  a23 := Tryz.isAgg9
  z23 := Tryz.sizeOf9
  t25 := Tryz.underlying82
  a25 := Tryz.isAgg82
  z25 := Tryz.sizeOf82
  v25 := Tryz.zeroValue82 }
open Go.RowKit Go.Lib in
theorem Tryz.slices_IndexFunc_f125 {α : Type} [Inhabited α] (enc : α → Value) (p : α → Bool) (g : Nat) (lb : Array Value) (eg : ∀ args w, (callFunc g args).run Tryz.prog w = .ok (.enter g args) w) (b off n c : Nat) (zs : List α) (w : World) (hp : PredAt Tryz.prog g lb enc p w) (hz : n ≤ zs.length) (hbig : n ≤ 9223372036854775807) (hc : ∀ j, j < zs.length → w.cell? ⟨b, off + j, none⟩ = some (enc zs[j]!)) :
    Calls Tryz.prog 125 #[.slice (some ⟨b, off, none⟩) n c, .func (.func g) #[] lb] w fun e w' => e = .returned (.int .i64 (Lib.idxBy (fun _ y => p y) (zs.take n) default)) ∧ ∃ q, w' = w.drewN q := AnyE.slices_IndexFunc Tryz.laysSlH6_f125 enc p g lb eg b off n c zs w hp hz hbig hc
def Tryz.laysSlH6_f131_ren : Go.Shelf.Ren := ⟨fun | 6 => 131 | n => n, fun | 22 => 32 | 23 => 3 | 25 => 118 | 3 => 3 | 0 => 0 | 4 => 4 | n => n, fun | n => n⟩
theorem Tryz.laysSlH6_f131 : Go.Proofs.SlLaysH.n6 Tryz.prog Tryz.laysSlH6_f131_ren := {
  mixed := by kernel_rfl
  f6 := ⟨Tryz.f131.name, by decide, Tryz.func131.trans (congrArg some (by kernel_rfl))⟩
  t0 := Tryz.underlying0
  a0 := Tryz.isAgg0
  z0 := Tryz.sizeOf0
  v0 := Tryz.zeroValue0
  t3 := Tryz.underlying3
  a3 := Tryz.isAgg3
  z3 := Tryz.sizeOf3
  v3 := Tryz.zeroValue3
  t4 := Tryz.underlying4
  a4 := Tryz.isAgg4
  z4 := Tryz.sizeOf4
  v4 := Tryz.zeroValue4
  t22 := Tryz.underlying32
  a22 := Tryz.isAgg32
  z22 := Tryz.sizeOf32
  v22 := Tryz.zeroValue32
  a23 := Tryz.isAgg3
  z23 := Tryz.sizeOf3
  t25 := Tryz.underlying118
  a25 := Tryz.isAgg118
  z25 := Tryz.sizeOf118
  v25 := Tryz.zeroValue118 }
open Go.RowKit Go.Lib in
theorem Tryz.slices_IndexFunc_f131 {α : Type} [Inhabited α] (enc : α → Value) (p : α → Bool) (g : Nat) (lb : Array Value) (eg : ∀ args w, (callFunc g args).run Tryz.prog w = .ok (.enter g args) w) (b off n c : Nat) (zs : List α) (w : World) (hp : PredAt Tryz.prog g lb enc p w) (hz : n ≤ zs.length) (hbig : n ≤ 9223372036854775807) (hc : ∀ j, j < zs.length → w.cell? ⟨b, off + j, none⟩ = some (enc zs[j]!)) :
    Calls Tryz.prog 131 #[.slice (some ⟨b, off, none⟩) n c, .func (.func g) #[] lb] w fun e w' => e = .returned (.int .i64 (Lib.idxBy (fun _ y => p y) (zs.take n) default)) ∧ ∃ q, w' = w.drewN q := AnyE.slices_IndexFunc Tryz.laysSlH6_f131 enc p g lb eg b off n c zs w hp hz hbig hc
open Go.RowKit Go.Lib in
theorem Tryz.slices_IndexFunc_empty_f125 {α : Type} [Inhabited α] (a : Option Addr) (c : Nat) (fv : Value) (w : World) :
    Calls Tryz.prog 125 #[.slice a 0 c, fv] w fun e w' => e = .returned (.int .i64 (-1)) ∧ w' = w := AnyE.slices_IndexFunc_empty Tryz.laysSlH6_f125 a c fv w
open Go.RowKit Go.Lib in
theorem Tryz.slices_IndexFunc_empty_f131 {α : Type} [Inhabited α] (a : Option Addr) (c : Nat) (fv : Value) (w : World) :
    Calls Tryz.prog 131 #[.slice a 0 c, fv] w fun e w' => e = .returned (.int .i64 (-1)) ∧ w' = w := AnyE.slices_IndexFunc_empty Tryz.laysSlH6_f131 a c fv w
def Tryz.laysSlH10_f87_ren : Go.Shelf.Ren := ⟨fun | 10 => 87 | 6 => 125 | n => n, fun | 22 => 51 | 23 => 9 | 25 => 82 | 3 => 3 | 4 => 4 | 0 => 0 | n => n, fun | n => n⟩
theorem Tryz.laysSlH10_f87 : Go.Proofs.SlLaysH.n10 Tryz.prog Tryz.laysSlH10_f87_ren := {
  mixed := by kernel_rfl
  f6 := ⟨Tryz.f125.name, by decide, Tryz.func125.trans (congrArg some (by kernel_rfl))⟩
  f10 := ⟨Tryz.f87.name, by decide, Tryz.func87.trans (congrArg some (by kernel_rfl))⟩
  t0 := Tryz.underlying0
  a0 := Tryz.isAgg0
  z0 := Tryz.sizeOf0
  v0 := Tryz.zeroValue0
  t3 := Tryz.underlying3
  a3 := Tryz.isAgg3
  z3 := Tryz.sizeOf3
  v3 := Tryz.zeroValue3
  t4 := Tryz.underlying4
  a4 := Tryz.isAgg4
  z4 := Tryz.sizeOf4
  v4 := Tryz.zeroValue4
  t22 := Tryz.underlying51
  a22 := Tryz.isAgg51
  z22 := Tryz.sizeOf51
  v22 := Tryz.zeroValue51
  a23 := Tryz.isAgg9
  z23 := Tryz.sizeOf9
  t25 := Tryz.underlying82
  a25 := Tryz.isAgg82
  z25 := Tryz.sizeOf82
  v25 := Tryz.zeroValue82 }
open Go.RowKit Go.Lib Go.Sort in
theorem Tryz.slices_DeleteFunc {α : Type} [Inhabited α] (enc : α → Value) (hO : OneCell enc) (p : α → Bool) (g : Nat) (lb : Array Value) (eg : ∀ args w, (callFunc g args).run Tryz.prog w = .ok (.enter g args) w) (zr : α) (v23 : ∀ w, (zeroValue 9).run Tryz.prog w = .ok (enc zr) w) (blk off cap : Nat) (d : Array α) (w : World) (hp : PredAt Tryz.prog g lb enc p w) (hpo : PredOver Tryz.prog g lb enc p blk off d.size w) (hH : Holds enc w blk off d) (hsz : d.size ≤ 9223372036854775807) (hcap : d.size ≤ cap) :
    Calls Tryz.prog 87 #[.slice (some ⟨blk, off, none⟩) d.size cap, .func (.func g) #[] lb] w fun e w' => e = .returned (.slice (some ⟨blk, off, none⟩) (d.toList.filter fun x => !p x).length cap) ∧ ∃ q, w' = putRow enc (Sort.ahead w q) blk off ((d.toList.filter fun x => !p x) ++ List.replicate (d.size - (d.toList.filter fun x => !p x).length) zr).toArray := AnyE.slices_DeleteFunc Tryz.laysSlH10_f87 enc hO p g lb eg zr v23 blk off cap d w hp hpo hH hsz hcap
end Go.Proofs

/- Proved here: contracts of functions and plain laws, part 14 of one proof. Conditions: each theorem names its own. -/
import Derived.Test.YteinoiicnmemhaaGreatDoorZ7
import Derived.Test.YteinoiicnmemhaaGreatDoorZ13
import Derived.Deep.AppendLies
set_option linter.unusedSimpArgs false
set_option linter.unusedVariables false
namespace Go.Proofs.YteinoiicnmemhaaGreatDoor
section
open Go.RowKit
theorem infoSt : (Tryz.prog.info? 92).map (fun i => (i.zero, i.size, i.bytes)) = some (some (.agg #[.int .i64 0, .string ⟨#[]⟩, .string ⟨#[]⟩, .float .f64 0, .string ⟨#[]⟩, .int .i64 0, .int .i64 0, .int .i64 0]), 8, 88) := by kernel_rfl
theorem own_form {w : World} {base size n : Nat} {e : TypeId} {v : Value} {xs : List Value} (h : w.ownsRow base e size v n xs) : ∃ A cap, v = .slice A n cap ∧ n ≤ cap ∧ cap ≤ maxLen := by
  obtain ⟨_, h2⟩ := h
  rcases h2 with ⟨rfl, rfl⟩ | ⟨g, cap, cur, rfl, hb, hg, hn, hc, _⟩
  · exact ⟨none, 0, rfl, Nat.le_refl _, Nat.zero_le _⟩
  · exact ⟨_, cap, rfl, hn, hc⟩
theorem own_base {w : World} {base base' size n : Nat} {e : TypeId} {v : Value} {xs : List Value} (h : w.ownsRow base e size v n xs) (hb : base' ≤ base) : w.ownsRow base' e size v n xs := by
  obtain ⟨h1, h2⟩ := h
  rcases h2 with q | ⟨g, cap, cur, q1, q2, q3⟩
  · exact ⟨h1, .inl q⟩
  · exact ⟨h1, .inr ⟨g, cap, cur, q1, Nat.le_trans hb q2, q3⟩⟩
theorem own_some {w : World} {base size n : Nat} {e : TypeId} {v : Value} {xs : List Value} (h : w.ownsRow base e size v n xs) (h0 : 0 < n) : ∃ g cap cur, v = .slice (some ⟨g, 0, none⟩) n cap ∧ base ≤ g ∧ Blk w g e cur := by
  obtain ⟨_, h2⟩ := h
  rcases h2 with ⟨rfl, rfl⟩ | ⟨g, cap, cur, rfl, hb, hg, _⟩
  · omega
  · exact ⟨g, cap, cur, rfl, hb, hg⟩
theorem own_type {w : World} {base size n : Nat} {e : TypeId} {v : Value} {xs : List Value} (h : w.ownsRow base e size v n xs) {g : Nat} (hg : v.ownBlock = some g) : ∃ cur, Blk w g e cur := by
  obtain ⟨_, h2⟩ := h
  rcases h2 with ⟨rfl, rfl⟩ | ⟨g', cap, cur, rfl, hb, hg', _⟩
  · cases hg
  · cases hg; exact ⟨cur, hg'⟩
theorem news_blk {w : World} {g : Nat} {e : TypeId} {us : List Value} (hb : Blk w g e us.toArray) : ∀ j x, us[j]? = some x → w.cell? ((⟨g, 0, none⟩ : Addr).add j) = some x := by
  intro j x hx
  rw [Addr.add_lit, Nat.zero_add, hb.cell j]
  simpa using hx
theorem wpList_append_lies {P : Program} {w : World} {ops : Array Oper} {rest : List Oper} {o : Oper} {a : Act} {Q : Exit → Act → World → Prop} (hgd : o.guard = none) (s x : Operand) (t : TypeId)
    (ho : o.op = .call { callee := .builtin .append, args := #[s, x], argTypes := #[t, t] })
    (base : Nat) (e : TypeId) (i : TypeInfo) (z : Value) (size bytes : Nat) (ht : P.underlying t = some (.slice e)) (hi : P.info? e = some i) (hz : i.zero = some z)
    (hsize : i.size = size) (hby : i.bytes = bytes) (hzs : z.cells.size = size) (hsz : 0 < size)
    (v : Value) (n : Nat) (xs : List Value) (hs : a.eval s = v) (hown : w.ownsRow base e size v n xs)
    (ad : Addr) (m c : Nat) (news : List Value) (hx : a.eval x = .slice (some ad) m c) (hl : news.length = m * size) (hnews : ∀ j u, news[j]? = some u → w.cell? (ad.add j) = some u) (h1 : ∀ u ∈ news, u.oneCell' = true)
    (hm : 0 < m) (h63 : n + m ≤ maxLen) (hbytes : (n + m) * bytes ≤ 140737488355328) (hbase : base ≤ w.heap.size)
    (h : ∀ g cap w', w'.ownsRow base e size (.slice (some ⟨g, 0, none⟩) (n + m) cap) (n + m) (xs ++ news) → w.grownBy w' v.ownBlock → (v.ownBlock = some g ∨ g = w.heap.size) → g < w'.heap.size → wpList P ops Q rest (a.put o.dst (.slice (some ⟨g, 0, none⟩) (n + m) cap)) w') :
    wpList P ops Q (o :: rest) a w :=
  wpList_plain hgd fun _ hK => wp_append_lies w s x t ho base e i z size bytes ht hi hz hsize hby hzs hsz v n xs hs hown ad m c news hx hl hnews h1 hm h63 hbytes hbase w.heap.size rfl fun g cap w' q1 q2 q3 q4 => hK _ _ (h g cap w' q1 q2 q3 q4)
theorem size_setCell (w : World) (p : Addr) (v : Value) : (w.setCell p v).heap.size = w.heap.size := by simp [World.setCell]
theorem news_set {w : World} {p : Addr} {v u : Value} {e : TypeId} : ∀ j x, [u][j]? = some x → ((w.setCell p v).alloc (.cells #[u] e)).cell? ((⟨w.heap.size, 0, none⟩ : Addr).add j) = some x := by
  intro j x hx
  have hb := Blk.new (w.setCell p v) e #[u]
  rw [size_setCell] at hb
  exact news_blk hb j x hx
def stOne (stream : ByteArray) (now : Int) (e : EventR) (v at_ : Int) : StoredR := ⟨e.canon, stream, v, at_, now⟩
theorem storedOf_take (stream : ByteArray) (now : Int) : ∀ (l : List EventR) (k : Nat) (h : k < l.length) (v at_ : Int), storedOf stream now (l.take (k + 1)) v at_ = storedOf stream now (l.take k) v at_ ++ [stOne stream now l[k] (v + k) (at_ + k)]
  | [], k, h, _, _ => absurd h (Nat.not_lt_zero _)
  | e :: l, 0, h, v, at_ => by simp [storedOf, stOne]
  | e :: l, k + 1, h, v, at_ => by
    have := storedOf_take stream now l k (by simpa using h) (v + 1) (at_ + 1)
    rw [List.take_succ_cons, List.take_succ_cons]
    simp only [storedOf, List.cons_append, List.getElem_cons_succ]
    rw [this]
    have e1 : v + 1 + (k : Int) = v + ((k + 1 : Nat) : Int) := by omega
    have e2 : at_ + 1 + (k : Int) = at_ + ((k + 1 : Nat) : Int) := by omega
    rw [e1, e2]
theorem storedOf_len (stream : ByteArray) (now : Int) : ∀ (l : List EventR) (v at_ : Int), (storedOf stream now l v at_).length = l.length
  | [], _, _ => rfl
  | e :: l, v, at_ => by simp [storedOf, storedOf_len stream now l]
theorem rangeFrom_succ : ∀ (k : Nat) (a : Int), rangeFrom (k + 1) a = rangeFrom k a ++ [a + k]
  | 0, a => by simp [rangeFrom]
  | k + 1, a => by
    show a :: rangeFrom (k + 1) (a + 1) = _
    rw [rangeFrom_succ k (a + 1)]
    simp only [rangeFrom, List.cons_append, List.cons.injEq, true_and]
    have e1 : a + 1 + (k : Int) = a + ((k + 1 : Nat) : Int) := by omega
    rw [e1]
theorem rangeFrom_len : ∀ (k : Nat) (a : Int), (rangeFrom k a).length = k
  | 0, _ => rfl
  | k + 1, a => by simp [rangeFrom, rangeFrom_len k]
theorem append_ans (s : MS) (c : Cmd) (x : StreamR) {k : Nat} (hk : k = c.events.length) : (s.append c x).1.val = .agg #[.int .i64 0, .int .i64 x.places.length, .int .i64 ((s.all.length : Int) + k - 1), .bool false] := by subst hk; rfl
theorem append_st (s : MS) (c : Cmd) (x : StreamR) (pv : Value) : (s.append c x).2.1.val pv = .agg #[pv, .int .i64 x.mt.maxCount, .int .i64 x.mt.maxAge, .int .i64 x.mt.before, .int .i64 x.floor, .bool x.deleted] := rfl
theorem append_s (s : MS) (c : Cmd) (x : StreamR) : (s.append c x).2.2 = { s with all := s.all ++ storedOf c.stream s.now c.events x.places.length s.all.length } := rfl
theorem append_p (s : MS) (c : Cmd) (x : StreamR) : (s.append c x).2.1.places = x.places ++ rangeFrom c.events.length s.all.length := rfl
/-- What stands at the head of a round of append: k events are in. -/
structure ApAt (w wr : World) (sb mb k : Nat) (av avr pvr ev : Value) (s : MS) (c : Cmd) (x : StreamR) : Prop where
  only : Only (sb :: av.ownBlock.toList) w wr
  blkS : Blk wr sb 72 #[avr, .map (some mb), .int .i64 s.done, .int .i64 s.now]
  own : wr.ownsRow 0 92 8 avr (s.all.length + k) ((s.all ++ storedOf c.stream s.now (c.events.take k) x.places.length s.all.length).flatMap StoredR.cells)
  pown : wr.ownsRow w.heap.size 3 1 pvr (x.places.length + k) (ints (x.places ++ rangeFrom k s.all.length))
  avb : ∀ g, avr.ownBlock = some g → av.ownBlock = some g ∨ w.heap.size ≤ g
  bC : Blk wr w.heap.size 40 #[.int .i64 c.kind, .int .i64 c.time, .string c.stream, .int .i64 c.expected, ev, .int .i64 c.mt.maxCount, .int .i64 c.mt.maxAge, .int .i64 c.mt.before]
  bX : Blk wr (w.heap.size + 1) 75 #[pvr, .int .i64 x.mt.maxCount, .int .i64 x.mt.maxAge, .int .i64 x.mt.before, .int .i64 x.floor, .bool x.deleted]
  bA : Blk wr (w.heap.size + 1 + 1) 34 #[.int .i64 0, .int .i64 0, .int .i64 0, .bool false]
  bY : Blk wr (w.heap.size + 1 + 1 + 1) 75 #[.slice none 0 0, .int .i64 0, .int .i64 0, .int .i64 0, .int .i64 0, .bool false]
set_option maxRecDepth 100000 in
set_option maxHeartbeats 4000000 in
theorem append_any {w : World} {M : List Nat} {sb mb : Nat} {av pv ev : Value} {pf : ByteArray → Value} {s : MS} {x : StreamR} {c : Cmd} (h : StAt w M sb mb av pf s) (hx : XOk s x) (hp : Rd M w 1 pv x.places.length (ints x.places))
    (he : Rd M w 4 ev c.events.length (c.events.flatMap EventR.cells)) (hl : s.all.length ≤ 1000000) (hel : 1 ≤ c.events.length ∧ c.events.length ≤ 8) (hn : 0 ≤ s.now ∧ s.now ≤ 1099511627776) :
    Calls Tryz.prog 63 #[.pointer (some ⟨sb, 0, none⟩), c.val ev, x.val pv] w fun e w' => ∃ pv' avr, e = .returned (.tuple #[(s.append c x).1.val, (s.append c x).2.1.val pv']) ∧
      StAt w' (avr.ownBlock.toList ++ M) sb mb avr pf (s.append c x).2.2 ∧ Rd (avr.ownBlock.toList ++ M) w' 1 pv' (s.append c x).2.1.places.length (ints (s.append c x).2.1.places) ∧ Only (hM sb mb av) w w' ∧ (∀ g, avr.ownBlock = some g → av.ownBlock = some g ∨ w.heap.size ≤ g) ∧ (∀ g, pv'.ownBlock = some g → w.heap.size ≤ g) := by
  obtain ⟨A, cap, hpv, hn1, hn2, hps⟩ := hp.1.openI
  obtain ⟨A1, cap1, hev, hn3, hn4, hes⟩ := he.1.openE EventR.cells (fun _ => rfl)
  obtain ⟨i0, hi, hz0, hz1, hz2⟩ := info_parts infoI
  obtain ⟨j0, hj, hy0, hy1, hy2⟩ := info_parts infoSt
  unfold maxLen at hn2 hn4
  have hfew := hx.few
  have hsb := h.blk.lt
  have evM : ∀ g, ev.ownBlock = some g → g ∉ sb :: av.ownBlock.toList ∨ c.events.length = 0 := fun g hg => by
    rcases he.2 g hg with q | q
    · left
      intro q2
      simp at q2
      rcases q2 with rfl | q2
      · exact q.1 h.inM.1
      · exact q.1 (h.inM.2.2 g q2)
    · exact .inr q
  have hCl := Lib.hid (fun (W : World) (hw : Only [] w W) => cloneI_any (hp.1.only0 hw) (by omega))
  have hsf := stF
  have h0 : ∀ o1 o2 o3 o4, Only [] w ((((w.alloc o1).alloc o2).alloc o3).alloc o4) := fun o1 o2 o3 o4 => ((((Only.refl [] w).alloc _).alloc _).alloc _).alloc _
  have kC : ∀ cs t o2 o3 o4, Blk ((((w.alloc (.cells cs t)).alloc o2).alloc o3).alloc o4) w.heap.size t cs := fun cs t o2 o3 o4 => ((((Only.refl [] _).alloc o2).alloc o3).alloc o4).blk (Blk.new w t cs) (by simp)
  have kX : ∀ cs t o1 o3 o4, Blk ((((w.alloc o1).alloc (.cells cs t)).alloc o3).alloc o4) (w.heap.size + 1) t cs := fun cs t o1 o3 o4 => by
    have := (((Only.refl [] _).alloc o3).alloc o4).blk (Blk.new (w.alloc o1) t cs) (by simp)
    simpa using this
  have kA : ∀ cs t o1 o2 o4, Blk ((((w.alloc o1).alloc o2).alloc (.cells cs t)).alloc o4) (w.heap.size + 1 + 1) t cs := fun cs t o1 o2 o4 => by
    have := ((Only.refl [] _).alloc o4).blk (Blk.new ((w.alloc o1).alloc o2) t cs) (by simp)
    simpa using this
  have kY : ∀ cs t o1 o2 o3, Blk ((((w.alloc o1).alloc o2).alloc o3).alloc (.cells cs t)) (w.heap.size + 1 + 1 + 1) t cs := fun cs t o1 o2 o3 => by
    have := Blk.new (((w.alloc o1).alloc o2).alloc o3) t cs
    simpa using this
  subst hpv hev
  obtain ⟨hel1, hel8⟩ := hel
  obtain ⟨R, hR⟩ : ∃ R, R = s.append c x := ⟨_, rfl⟩
  rw [← hR]
  rw [show c.val (.slice A1 c.events.length cap1) = .agg #[.int .i64 c.kind, .int .i64 c.time, .string c.stream, .int .i64 c.expected, .slice A1 c.events.length cap1, .int .i64 c.mt.maxCount, .int .i64 c.mt.maxAge, .int .i64 c.mt.before] from rfl,
    show x.val (.slice A x.places.length cap) = .agg #[.slice A x.places.length cap, .int .i64 x.mt.maxCount, .int .i64 x.mt.maxAge, .int .i64 x.mt.before, .int .i64 x.floor, .bool x.deleted] from rfl]
  have HR := Lib.hid hR
  clear hR
  go_enter Tryz.func63, Tryz.ntmps63
  go_wp2_with (go_at_call 99; refine (hCl.out _ (h0 _ _ _ _)).mono ?_; rintro e w1 ⟨v1, rfl, hown1, ho1⟩; obtain ⟨Av, capv, rfl, hv1, hv2⟩ := own_form hown1; have hX1 := fun i => (ho1.blk (kX _ _ _ _ _) (by simp)).cell i; have hXf1 := fun i => (ho1.blk (kX _ _ _ _ _) (by simp)).free i; have hC1 := fun i => (ho1.blk (kC _ _ _ _ _) (by simp)).cell i)
  have hcl : Hid (c.events.length = c.events.length) := rfl
  go_loopw [22] (fun i wr => ∃ (k : Nat) (avr pvr : Value), k ≤ c.events.length ∧ i = .int .i64 k ∧ ApAt w wr sb mb k av avr pvr (.slice A1 c.events.length cap1) s c x) (fun i _ => c.events.length - (intOf i).toNat)
  case atStart =>
    refine ⟨0, av, .slice Av x.places.length capv, Nat.zero_le _, rfl, ?_⟩
    have hO1 : Only [] w w1 := (h0 _ _ _ _).trans ho1
    have hO2 := hO1.setCell (p := ⟨w.heap.size + 1, 0, none⟩) (.inr (by simp)) (.slice Av x.places.length capv)
    have hO3 : Only [w.heap.size + 1] w1 (w1.setCell ⟨w.heap.size + 1, 0, none⟩ (.slice Av x.places.length capv)) := (Only.refl _ w1).setCell (.inl (by simp)) _
    have hown1' := own_base hown1 (base' := w.heap.size) (by simp; omega)
    refine ⟨hO2.of_nil, hO2.blk h.blk (by simp), ?_, ?_, fun g hg => .inl hg, hO3.blk (ho1.blk (kC _ _ _ _ _) (by simp)) (by simp <;> omega), (ho1.blk (kX _ _ _ _ _) (by simp)).set 0 _, hO3.blk (ho1.blk (kA _ _ _ _ _) (by simp)) (by simp <;> omega), hO3.blk (ho1.blk (kY _ _ _ _ _) (by simp)) (by simp <;> omega)⟩
    · have := own_only h.own hO2 (by simp)
      simpa [storedOf] using this
    · have := own_only hown1' hO3 (fun g hg => by have := (hown1.lt g hg).1; simp at this; simp; omega)
      simpa [rangeFrom] using this
  case round =>
    obtain ⟨k, avr, pvr, hk, rfl, hA⟩ := hrel
    obtain ⟨Ar, capr, rfl, har1, har2⟩ := own_form hA.own
    obtain ⟨Pr, pcap, rfl, hpr1, hpr2⟩ := own_form hA.pown
    have s0 : wr.cell? ⟨sb, 0, none⟩ = some (.slice Ar (s.all.length + k) capr) := hA.blkS.cell 0
    have s3 : wr.cell? ⟨sb, 3, none⟩ = some (.int .i64 s.now) := hA.blkS.cell 3
    have hC := fun i => hA.bC.cell i
    have hX := fun i => hA.bX.cell i
    have hXf := fun i => hA.bX.free i
    by_cases hlt : k < c.events.length
    · obtain ⟨be, offe, rfl, hbe, hce⟩ := hes k hlt
      have hben : be ∉ sb :: av.ownBlock.toList := (evM be rfl).resolve_right (by omega)
      obtain ⟨y, hy⟩ : ∃ y, y = c.events[k] := ⟨_, rfl⟩
      rw [← hy] at hce
      have e0 : wr.cell? ⟨be, offe + k * 4, none⟩ = some (.int .i64 y.id) := (hA.only.cell hbe hben).trans (hce 0 (by omega))
      have e1 : wr.cell? ⟨be, offe + k * 4 + 1, none⟩ = some (.string y.type) := (hA.only.cell hbe hben).trans (hce 1 (by omega))
      have e2 : wr.cell? ⟨be, offe + k * 4 + 2, none⟩ = some (.string y.data) := (hA.only.cell hbe hben).trans (hce 2 (by omega))
      have e3 : wr.cell? ⟨be, offe + k * 4 + 3, none⟩ = some (.float .f64 y.value) := (hA.only.cell hbe hben).trans (hce 3 (by omega))
      have hst := storedOf_take c.stream s.now c.events k hlt x.places.length s.all.length
      rw [← hy] at hst
      have hSt := Lib.hid hst
      have hEV : Only [] wr (wr.alloc (.cells #[.int .i64 y.id, .string y.type, .string y.data, .float .f64 (canon y.value)] 90)) := (Only.refl [] wr).alloc _
      have hEb := Blk.new wr 90 #[.int .i64 y.id, .string y.type, .string y.data, .float .f64 (canon y.value)]
      obtain ⟨So, hSo⟩ : ∃ So, So = (Value.slice Ar (s.all.length + k) capr).ownBlock.toList := ⟨_, rfl⟩
      have hSn : ∀ g ∈ So, g ≠ sb ∧ g < wr.heap.size ∧ ∃ cur, Blk wr g 92 cur := by
        intro g hg
        rw [hSo] at hg
        simp at hg
        obtain ⟨cur, hcur⟩ := own_type hA.own hg
        exact ⟨hcur.other hA.blkS (by decide), hcur.lt, cur, hcur⟩
      clear hce hst hy
      have s0a := fun o => (World.cell?_alloc_lt wr o _ (block_lt_of_cell s0)).trans s0
      go_wp2_with (go_at_call 100; refine (canon_any _ _).mono ?_; rintro e w' ⟨rfl, rfl⟩)
      obtain ⟨W2, hW2⟩ : ∃ W2, W2 = wr.alloc (.cells #[.int .i64 y.id, .string y.type, .string y.data, .float .f64 (canon y.value)] 90) := ⟨_, rfl⟩
      rw [← hW2] at hEV hEb ⊢
      clear hW2
      have nsb : sb ∉ So := fun q => (hSn sb q).1 rfl
      have nE : wr.heap.size ∉ So := fun q => Nat.lt_irrefl _ (hSn _ q).2.1
      have nC : w.heap.size ∉ So := fun q => by obtain ⟨_, _, cur, hcur⟩ := hSn _ q; exact hcur.other hA.bC (by decide) rfl
      have nX : w.heap.size + 1 ∉ So := fun q => by obtain ⟨_, _, cur, hcur⟩ := hSn _ q; exact hcur.other hA.bX (by decide) rfl
      have F0 := Within.cell (S := So) ((hEV.blk hA.blkS (by simp)).cell 0) nsb
      have F3 := Within.cell (S := So) ((hEV.blk hA.blkS (by simp)).cell 3) nsb
      have G0 := Within.cell (S := So) (hEb.cell 0) nE
      have G1 := Within.cell (S := So) (hEb.cell 1) nE
      have G2 := Within.cell (S := So) (hEb.cell 2) nE
      have G3 := Within.cell (S := So) (hEb.cell 3) nE
      have Fc := Within.cell (S := So) ((hEV.blk hA.bC (by simp)).cell 2) nC
      have Fx := Within.cell (S := So) ((hEV.blk hA.bX (by simp)).cell 0) nX
      refine wp_region_in So [0, 1, 2, 3, 4, 5, 6, 7, 8, 9, 10, 11, 12, 13, 14, 15, 16] [17, 18] [19, 20, 21] (by kernel_rfl) (by kernel_rfl) (by intro c d u a w h; cases d <;> exact h) ?_
      show wpQuiet _ _ _ _ [_, _, _, _, _, _, _, _, _, _, _, _, _, _, _, _, _] _
      repeat (go_big_quiet_step (fail))
      refine wpQuiet_nil ?_
      show wpList _ _ _ [_] _ _
      go_wp2_with fail
      refine check_of (S := So) (((Only.refl So W2).alloc _).drew) ?_
      show wpList _ _ _ [_] _ _
      have hOw : ∀ o, Only [] wr (W2.alloc o).drew := fun o => (hEV.alloc o).drew
      have hown0 := fun o => own_only hA.own (hOw o) (by simp)
      have hnb : Blk (W2.alloc (.cells #[.int .i64 y.id, .string y.type, .string y.data, .float .f64 (canon y.value), .string c.stream, .int .i64 ((x.places.length : Int) + k), .int .i64 ((s.all.length : Int) + k), .int .i64 s.now] 92)).drew W2.heap.size 92 #[.int .i64 y.id, .string y.type, .string y.data, .float .f64 (canon y.value), .string c.stream, .int .i64 ((x.places.length : Int) + k), .int .i64 ((s.all.length : Int) + k), .int .i64 s.now] := Blk.new W2 _ _
      refine wpList_append_lies rfl (.tmp 39) (.tmp 52) 28 rfl 0 92 j0 (.agg #[.int .i64 0, .string ⟨#[]⟩, .string ⟨#[]⟩, .float .f64 0, .string ⟨#[]⟩, .int .i64 0, .int .i64 0, .int .i64 0]) 8 88 Tryz.underlying28 hj hy0 hy1 hy2 rfl (by decide) (.slice Ar (s.all.length + k) capr) (s.all.length + k) _ rfl (hown0 _) ⟨W2.heap.size, 0, none⟩ 1 1 [.int .i64 y.id, .string y.type, .string y.data, .float .f64 (canon y.value), .string c.stream, .int .i64 ((x.places.length : Int) + k), .int .i64 ((s.all.length : Int) + k), .int .i64 s.now] rfl rfl (news_blk hnb) ?c2 (by decide) ?c3 ?c4 ?c5 ?_
      case c2 => simp [Value.oneCell']
      case c3 => unfold maxLen; omega
      case c4 => omega
      case c5 => exact Nat.zero_le _
      intro g4 cap4 w4 hown4 hgrow4 hlie4 hg4
      have ho24 : Only So W2 w4 := (((Only.refl So W2).alloc _).drew).grown hgrow4 (fun g hg => .inl (by rw [hSo, hg]; simp))
      have hav4 : g4 ∈ So ∨ W2.heap.size ≤ g4 := by
        rcases hlie4 with q | q
        · left; rw [hSo, q]; simp
        · right; rw [q]; simp
      have hS4 : Blk w4 sb 72 #[.slice Ar (s.all.length + k) capr, .map (some mb), .int .i64 s.done, .int .i64 s.now] := ho24.blk (hEV.blk hA.blkS (by simp)) nsb
      have hX4 : Blk w4 (w.heap.size + 1) 75 #[.slice Pr (x.places.length + k) pcap, .int .i64 x.mt.maxCount, .int .i64 x.mt.maxAge, .int .i64 x.mt.before, .int .i64 x.floor, .bool x.deleted] := ho24.blk (hEV.blk hA.bX (by simp)) nX
      obtain ⟨_, _, cur4, q4, _, hb4⟩ := own_some hown4 (by omega)
      cases q4
      clear hgrow4 hlie4 F0 F3 G0 G1 G2 G3 Fc Fx hnb hown0
      refine wpList_nil ?_
      refine check_of ho24 ?_
      show wpList _ _ _ [_, _, _] _ _
      have s40 := hS4.cell 0
      have sf40 := hS4.free 0
      have hO45 : ∀ v, Only [sb] w4 (w4.setCell ⟨sb, 0, none⟩ v) := fun v => (Only.refl _ w4).setCell (.inl (by simp)) _
      have hsx : w.heap.size + 1 ∉ [sb] := by simp; omega
      have hX5 := fun v i => ((hO45 v).blk hX4 hsx).cell i
      have hXf5 := fun v i => ((hO45 v).blk hX4 hsx).free i
      have hPn : ∀ g, (Value.slice Pr (x.places.length + k) pcap).ownBlock = some g → g ∉ So ∧ g ≠ sb ∧ g ≠ w.heap.size + 1 := by
        intro g hg
        obtain ⟨cur, hcur⟩ := own_type hA.pown hg
        refine ⟨fun q => ?_, ?_, hcur.other hA.bX (by decide)⟩
        · obtain ⟨_, _, cur2, hcur2⟩ := hSn g q
          exact hcur.other hcur2 (by decide) rfl
        · exact hcur.other hA.blkS (by decide)
      have hwr4 : Only So wr w4 := (hEV.of_nil).trans ho24
      have hpown5 : ∀ v o, ((w4.setCell ⟨sb, 0, none⟩ v).alloc o).ownsRow w.heap.size 3 1 (.slice Pr (x.places.length + k) pcap) (x.places.length + k) (ints (x.places ++ rangeFrom k s.all.length)) := fun v o =>
        own_only (own_only (own_only hA.pown hwr4 (fun g hg => (hPn g hg).1)) (hO45 v) (fun g hg => by simp; exact (hPn g hg).2.1)) ((Only.refl [] _).alloc o) (by simp)
      go_wp2_with (at_builtin; refine wpList_append_lies rfl (.tmp 57) (.tmp 59) 48 rfl w.heap.size 3 i0 (.int .i64 0) 1 8 Tryz.underlying48 hi hz0 hz1 hz2 rfl (by decide) (.slice Pr (x.places.length + k) pcap) (x.places.length + k) _ rfl (hpown5 _ _) ⟨w4.heap.size, 0, none⟩ 1 1 [.int .i64 ((s.all.length : Int) + k)] rfl rfl ?d1 ?d2 (by decide) ?d3 ?d4 ?d5 ?_)
      case d1 => exact news_set
      case d2 => simp [Value.oneCell']
      case d3 => unfold maxLen; omega
      case d4 => omega
      case d5 => have := hEV.size; have := ho24.size; have := hA.only.size; simp [World.setCell]; omega
      intro g6 cap6 w6 hown6 hgrow6 hlie6 hg6
      have ho56 : Only (Value.slice Pr (x.places.length + k) pcap).ownBlock.toList ((w4.setCell ⟨sb, 0, none⟩ (.slice (some ⟨g4, 0, none⟩) (s.all.length + k + 1) cap4)).alloc (.cells #[.int .i64 ((s.all.length : Int) + k)] 3)) w6 := (Only.refl _ _).grown hgrow6 (fun g hg => .inl (by rw [hg]; simp))
      have hPl : ∀ g, g ∈ (Value.slice Pr (x.places.length + k) pcap).ownBlock.toList → g ∉ So ∧ g ≠ sb ∧ g ≠ w.heap.size + 1 := fun g hg => hPn g (by simpa using hg)
      have hPw : ∀ g, g ∈ (Value.slice Pr (x.places.length + k) pcap).ownBlock.toList → w.heap.size ≤ g := fun g hg => (hA.pown.lt g (by simpa using hg)).1
      have hO46 : Only (sb :: (Value.slice Pr (x.places.length + k) pcap).ownBlock.toList) w4 w6 := (((hO45 _).alloc _).mono (by simp)).trans (ho56.mono (fun g hg => by simp at hg; simp [hg]))
      have hXg6 : Blk w6 (w.heap.size + 1) 75 #[.slice Pr (x.places.length + k) pcap, .int .i64 x.mt.maxCount, .int .i64 x.mt.maxAge, .int .i64 x.mt.before, .int .i64 x.floor, .bool x.deleted] := hO46.blk hX4 (by
        intro q
        rcases List.mem_cons.1 q with q | q
        · omega
        · exact (hPl _ q).2.2 rfl)
      have hO67 : Only [w.heap.size + 1] w6 (w6.setCell ⟨w.heap.size + 1, 0, none⟩ (.slice (some ⟨g6, 0, none⟩) (x.places.length + k + 1) cap6)) := (Only.refl _ w6).setCell (.inl (by simp)) _
      have hO47 := (hO46.mono (S' := (w.heap.size + 1) :: sb :: (Value.slice Pr (x.places.length + k) pcap).ownBlock.toList) (fun g hg => List.mem_cons_of_mem _ hg)).trans (hO67.mono (fun g hg => by simp at hg; simp [hg]))
      have hSoW : ∀ g ∈ So, g ∈ sb :: av.ownBlock.toList ∨ w.heap.size ≤ g := fun g hg => by
        rcases hA.avb g (by rw [hSo] at hg; simpa using hg) with q | q
        · left; simp [q]
        · exact .inr q
      have hOr4 : Only (sb :: av.ownBlock.toList) w w4 := hA.only.step hwr4 hSoW
      have hOr7 : Only (sb :: av.ownBlock.toList) w (w6.setCell ⟨w.heap.size + 1, 0, none⟩ (.slice (some ⟨g6, 0, none⟩) (x.places.length + k + 1) cap6)) := hOr4.step hO47 (fun g hg => by
        rcases List.mem_cons.1 hg with q | q
        · right; omega
        · rcases List.mem_cons.1 q with q | q
          · left; simp [q]
          · exact .inr (hPw g q))
      have hKeep : ∀ g t cs, Blk wr g t cs → g ∉ So → g ≠ sb → g ≠ w.heap.size + 1 → (g ∉ (Value.slice Pr (x.places.length + k) pcap).ownBlock.toList) → Blk (w6.setCell ⟨w.heap.size + 1, 0, none⟩ (.slice (some ⟨g6, 0, none⟩) (x.places.length + k + 1) cap6)) g t cs := fun g t cs hb h1 h2 h3 h4 => hO47.blk (hwr4.blk hb h1) (by
        intro q
        rcases List.mem_cons.1 q with q | q
        · exact h3 q
        · rcases List.mem_cons.1 q with q | q
          · exact h2 q
          · exact h4 q)
      have nY : ∀ g t cs, Blk wr g t cs → t ≠ 92 → t ≠ 3 → g ∉ So ∧ g ∉ (Value.slice Pr (x.places.length + k) pcap).ownBlock.toList := fun g t cs hb h1 h2 => ⟨fun q => by
          obtain ⟨_, _, cur, hcur⟩ := hSn g q
          exact hcur.other hb (fun e => h1 e.symm) rfl, fun q => by
          obtain ⟨cur, hcur⟩ := own_type hA.pown (g := g) (by simpa using q)
          exact hcur.other hb (fun e => h2 e.symm) rfl⟩
      have hNext : ApAt w (w6.setCell ⟨w.heap.size + 1, 0, none⟩ (.slice (some ⟨g6, 0, none⟩) (x.places.length + k + 1) cap6)) sb mb (k + 1) av (.slice (some ⟨g4, 0, none⟩) (s.all.length + k + 1) cap4) (.slice (some ⟨g6, 0, none⟩) (x.places.length + k + 1) cap6) (.slice (some ⟨be, offe, none⟩) c.events.length cap1) s c x := by
        refine ⟨hOr7, ?_, ?_, ?_, ?_, ?_, ?_, ?_, ?_⟩
        · refine hO67.blk (ho56.blk (((Only.refl [] _).alloc _).blk (hS4.set 0 _) (by simp)) (fun q => (hPl _ q).2.1 rfl)) (by simp; omega)
        · have hg4S : g4 ≠ sb := hb4.other hS4 (by decide)
          have hg4X : g4 ≠ w.heap.size + 1 := hb4.other hX4 (by decide)
          have hg4P : g4 ∉ (Value.slice Pr (x.places.length + k) pcap).ownBlock.toList := fun q => by
            obtain ⟨cur, hcur⟩ := own_type (own_only hA.pown hwr4 (fun g hg => (hPn g hg).1)) (g := g4) (by simpa using q)
            exact hcur.other hb4 (by decide) rfl
          have := own_only hown4 hO47 (fun g hg => by cases hg; simp only [List.mem_cons, not_or]; exact ⟨hg4X, hg4S, hg4P⟩)
          rw [hSt.out, ← List.append_assoc, List.flatMap_append]
          exact this
        · have := own_only hown6 hO67 (fun g hg => by
            cases hg
            obtain ⟨cur, hcur⟩ := own_type hown6 (g := g6) rfl
            simp
            exact hcur.other hXg6 (by decide))
          rw [rangeFrom_succ, ← List.append_assoc]
          unfold ints at this ⊢
          rw [List.map_append]
          exact this
        · intro g hg
          cases hg
          rcases hav4 with q | q
          · exact hA.avb _ (by rw [hSo] at q; simpa using q)
          · exact .inr (Nat.le_trans (Nat.le_trans hA.only.size hEV.size) q)
        · exact hKeep _ _ _ hA.bC (nY _ _ _ hA.bC (by decide) (by decide)).1 (by omega) (by omega) (nY _ _ _ hA.bC (by decide) (by decide)).2
        · exact hXg6.set 0 _
        · exact hKeep _ _ _ hA.bA (nY _ _ _ hA.bA (by decide) (by decide)).1 (by omega) (by omega) (nY _ _ _ hA.bA (by decide) (by decide)).2
        · exact hKeep _ _ _ hA.bY (nY _ _ _ hA.bY (by decide) (by decide)).1 (by omega) (by omega) (nY _ _ _ hA.bY (by decide) (by decide)).2
      have HNext := Lib.hid hNext
      have hX6 := fun i => hXg6.cell i
      have hXf6 := fun i => hXg6.free i
      clear hNext hKeep nY hOr7 hOr4 hSoW hO47 hO67 hO46 hPw hPl ho56 hgrow6 hlie6 hown6 hpown5 hwr4 hPn hX5 hXf5 hO45 hX4 hXg6 hS4 hav4 hown4
      go_wp2
      exact ⟨⟨k + 1, _, _, hlt, by simp, HNext.out⟩, by simp [intOf]; omega⟩
    · have hkl : k = c.events.length := by omega
      have hS := hA.blkS
      have HK := Lib.hid hkl
      have hfin : ∀ W9, Only [w.heap.size + 1 + 1, w.heap.size + 1 + 1 + 1] wr W9 → StAt W9 ((Value.slice Ar (s.all.length + k) capr).ownBlock.toList ++ M) sb mb (.slice Ar (s.all.length + k) capr) pf { s with all := s.all ++ storedOf c.stream s.now c.events x.places.length s.all.length } ∧
          Rd ((Value.slice Ar (s.all.length + k) capr).ownBlock.toList ++ M) W9 1 (.slice Pr (x.places.length + k) pcap) (x.places ++ rangeFrom c.events.length s.all.length).length (ints (x.places ++ rangeFrom c.events.length s.all.length)) ∧ Only (hM sb mb av) w W9 := by
        intro W9 hO9
        have htk : c.events.take k = c.events := by rw [hkl, List.take_length]
        have hOw : Only (sb :: av.ownBlock.toList) w W9 := hA.only.step hO9 (fun g hg => by right; simp at hg; omega)
        have hM9 : Only (hM sb mb av) w W9 := hOw.mono (fun g hg => by simp [hM] at hg ⊢; rcases hg with q | q; exact .inl q; exact .inr (.inr q))
        have hMM : ∀ g ∈ hM sb mb av, g ∈ (Value.slice Ar (s.all.length + k) capr).ownBlock.toList ++ M := fun g hg => List.mem_append_right _ (h.hMM g hg)
        have hnA : ∀ g ∈ (Value.slice Ar (s.all.length + k) capr).ownBlock.toList, g ∈ M ∨ w.heap.size ≤ g := fun g hg => by
          rcases hA.avb g (by simpa using hg) with q | q
          · exact .inl (h.inM.2.2 g q)
          · exact .inr q
        have hown9 := own_only hA.own hO9 (fun g hg => by
          obtain ⟨cur, hcur⟩ := own_type hA.own hg
          simp
          exact ⟨hcur.other hA.bA (by decide), hcur.other hA.bY (by decide)⟩)
        have hpown9 := own_only hA.pown hO9 (fun g hg => by
          obtain ⟨cur, hcur⟩ := own_type hA.pown hg
          simp
          exact ⟨hcur.other hA.bA (by decide), hcur.other hA.bY (by decide)⟩)
        refine ⟨⟨hO9.blk hA.blkS (by simp; omega), ?_, ?_, fun n y hy => ?_, ?_, ?_⟩, ⟨?_, fun g hg => .inl ⟨?_, ?_⟩⟩, hM9⟩
        · show W9.ownsRow 0 92 8 _ (s.all ++ storedOf c.stream s.now c.events x.places.length s.all.length).length _
          rw [List.length_append, storedOf_len, ← hkl]
          rw [htk] at hown9
          exact hown9
        · refine (h.map.only hOw ?_)
          simp
          exact ⟨h.ne, fun q => (h.ownne mb q).2 rfl⟩
        · exact ((h.pl n y hy).ext (fun g hg => by
            rcases List.mem_append.1 hg with q | q
            · exact hnA g q
            · exact .inl q)).only hM9 hMM
        · exact ⟨List.mem_append_right _ h.inM.1, List.mem_append_right _ h.inM.2.1, fun g hg => List.mem_append_left _ (by simpa using hg)⟩
        · intro g hg
          rcases List.mem_append.1 hg with q | q
          · exact Nat.lt_of_lt_of_le (hA.own.lt g (by simpa using q)).2 hO9.size
          · exact Nat.lt_of_lt_of_le (h.mlt g q) hOw.size
        · rw [List.length_append, rangeFrom_len, ← hkl]
          exact (Slc.of_own hpown9).1
        · intro q
          rcases List.mem_append.1 q with q | q
          · obtain ⟨c1, hc1⟩ := own_type hown9 (g := g) (by simpa using q)
            obtain ⟨c2, hc2⟩ := own_type hpown9 hg
            exact hc1.other hc2 (by decide) rfl
          · have := h.mlt g q
            have := (hpown9.lt g hg).1
            omega
        · exact (hpown9.lt g hg).2
      have HFIN := Lib.hid hfin
      clear hfin
      have hCx : Hid (c.events.take k = c.events) := by unfold Hid; rw [hkl, List.take_length]
      have hbA := fun i => hA.bA.cell i
      have hbAf := fun i => hA.bA.free i
      have hbY := fun i => hA.bY.cell i
      have hbYf := fun i => hA.bY.free i
      have hsn : w.heap.size + 1 + 1 ∉ [w.heap.size + 1 + 1] → False := fun q => q (by simp)
      have F0 := Within.cell (S := [w.heap.size + 1 + 1]) s0 (by simp; omega)
      have X0 := Within.cell (S := [w.heap.size + 1 + 1]) (hA.bX.cell 0) (by simp)
      have X1 := Within.cell (S := [w.heap.size + 1 + 1]) (hA.bX.cell 1) (by simp)
      have X2 := Within.cell (S := [w.heap.size + 1 + 1]) (hA.bX.cell 2) (by simp)
      have X3 := Within.cell (S := [w.heap.size + 1 + 1]) (hA.bX.cell 3) (by simp)
      have X4 := Within.cell (S := [w.heap.size + 1 + 1]) (hA.bX.cell 4) (by simp)
      have X5 := Within.cell (S := [w.heap.size + 1 + 1]) (hA.bX.cell 5) (by simp)
      have hwp := IntWalk.i64_in (((s.all.length + k : Nat) : Int) - 1) ⟨by omega, by omega⟩
      clear hkl hsn
      go_wp2_with fail
      refine wp_region_in [w.heap.size + 1 + 1] [0, 1, 2, 3, 4, 5, 6, 7, 8] [9] [10] (by kernel_rfl) (by kernel_rfl) (by intro c d u a w h; cases d <;> exact h) ?_
      show wpQuiet _ _ _ _ [_, _, _, _, _, _, _, _, _] _
      repeat (go_big_quiet_step (fail))
      refine wpQuiet_nil ?_
      show wpList _ _ _ [_] _ _
      go_wp2_with fail
      refine check_of (S := [w.heap.size + 1 + 1]) (by repeat (first | exact Only.refl _ _ | refine Only.drew ?_ | refine Only.setCell ?_ (.inl (by simp)) _)) ?_
      show wpList _ _ _ [_] _ _
      go_wp2
      have hR := HR.out
      subst hR
      clear HR F0 X0 X1 X2 X3 X4 X5 hwp
      refine bodyPost_ret (v := .tuple #[.agg #[.int .i64 0, .int .i64 x.places.length, .int .i64 ((s.all.length : Int) + k - 1), .bool false], .agg #[.slice Pr (x.places.length + k) pcap, .int .i64 x.mt.maxCount, .int .i64 x.mt.maxAge, .int .i64 x.mt.before, .int .i64 x.floor, .bool x.deleted]]) (by simp [results, Tryz.results63, go_sem, hbA, hbY]) rfl ⟨.slice Pr (x.places.length + k) pcap, .slice Ar (s.all.length + k) capr, ?_⟩
      rw [append_ans s c x HK.out, append_st, append_s, append_p]
      refine ⟨rfl, (HFIN.out _ ?hw).1, (HFIN.out _ ?hw).2.1, (HFIN.out _ ?hw).2.2, hA.avb, fun g hg => (hA.pown.lt g hg).1⟩
      case hw =>
        refine Only.drew ?_
        iterate 10 (refine Only.setCell ?_ (.inl (by simp)) _)
        exact Only.refl _ _
end
section
open Go.RowKit
/-- What a call on the state leaves: the state s', and what of the world may have turned. -/
def StLeads (w : World) (M : List Nat) (sb mb : Nat) (av : Value) (s' : MS) (w' : World) : Prop :=
  ∃ M' av' pf', StAt w' M' sb mb av' pf' s' ∧ Only (hM sb mb av) w w' ∧ (∀ g ∈ M, g ∈ M') ∧ (∀ g ∈ M', g ∈ M ∨ w.heap.size ≤ g) ∧ ∀ g, av'.ownBlock = some g → av.ownBlock = some g ∨ w.heap.size ≤ g
/-- What act leaves besides: the stream's places. -/
def ActLeads (w : World) (M : List Nat) (sb mb : Nat) (av : Value) (pf : ByteArray → Value) (y : StreamR) (s' : MS) (pv' : Value) (w' : World) : Prop :=
  ∃ M' av', StAt w' M' sb mb av' pf s' ∧ Rd M' w' 1 pv' y.places.length (ints y.places) ∧ Only (hM sb mb av) w w' ∧ (∀ g ∈ M, g ∈ M') ∧ (∀ g ∈ M', g ∈ M ∨ w.heap.size ≤ g) ∧ ∀ g, av'.ownBlock = some g → av.ownBlock = some g ∨ w.heap.size ≤ g
theorem ActLeads.same {w w' : World} {M : List Nat} {sb mb : Nat} {av pv : Value} {pf : ByteArray → Value} {s : MS} {y : StreamR} (h : StAt w M sb mb av pf s) (hp : Rd M w 1 pv y.places.length (ints y.places)) (k : Only [] w w') : ActLeads w M sb mb av pf y s pv w' :=
  ⟨M, av, h.only0 k, hp.only0 k, k.of_nil, fun _ q => q, fun _ q => .inl q, fun _ q => .inl q⟩
theorem Only.two {S : List Nat} {a b : World} (h : Only S a b) (e : b.heap.size = a.heap.size) {o o' : Obj} (ho : o' = o ∨ a.heap.size ∈ S) : Only S (a.alloc o) (b.alloc o') := by
  refine ⟨h.os, h.tape, h.output, by simp [e], fun k hk hn => ?_⟩
  simp at hk
  by_cases hlt : k < a.heap.size
  · rw [Below.heap_alloc _ _ _ hlt, Below.heap_alloc _ _ _ (by omega)]
    exact h.block k hlt hn
  · have hka : k = a.heap.size := by omega
    subst hka
    rcases ho with rfl | q
    · have h1 := heap_alloc_new a o'
      have h2 := heap_alloc_new b o'
      rw [e] at h2
      rw [h1, h2]
    · exact absurd q hn
theorem Only.drewL {S : List Nat} {a b : World} (h : Only S a b) : Only S a.drew b := ⟨h.os, h.tape, h.output, h.size, h.block⟩
/-- Of five fresh blocks the third may turn. -/
theorem turned (w : World) (o1 o2 o3 o4 o5 o3' : Obj) : Only [w.heap.size + 1 + 1] (((((w.alloc o1).alloc o2).alloc o3).alloc o4).alloc o5).drew (((((w.alloc o1).alloc o2).alloc o3').alloc o4).alloc o5) :=
  Only.drewL ((((Only.refl _ ((w.alloc o1).alloc o2)).two rfl (o := o3) (o' := o3') (.inr (by simp))).two (by simp) (o := o4) (o' := o4) (.inl rfl)).two (by simp) (.inl rfl))
set_option maxRecDepth 100000 in
set_option maxHeartbeats 4000000 in
theorem act_meta {w : World} {M : List Nat} {sb mb : Nat} {av pv ev : Value} {pf : ByteArray → Value} {s : MS} {x : StreamR} {c : Cmd} (h : StAt w M sb mb av pf s) (hx : XOk s x) (hp : Rd M w 1 pv x.places.length (ints x.places))
    (he : Rd M w 4 ev c.events.length (c.events.flatMap EventR.cells)) (hl : s.all.length ≤ 1000000) (hk : c.kind = 2) :
    Calls Tryz.prog 23 #[.pointer (some ⟨sb, 0, none⟩), c.val ev, x.val pv] w fun e w' => ∃ pv', e = .returned (.tuple #[(s.act c x).1.val, (s.act c x).2.1.val pv']) ∧ ActLeads w M sb mb av pf (s.act c x).2.1 (s.act c x).2.2 pv' w' := by
  obtain ⟨A, cap, hpv, hn1, hn2, hps⟩ := hp.1.openI
  obtain ⟨A1, cap1, hev, hn3, hn4, hes⟩ := he.1.openE EventR.cells (fun _ => rfl)
  obtain ⟨A2, cap2, hav, hnc2, hcm2, hel2⟩ := h.cell
  unfold maxLen at hn2 hn4 hcm2
  have hfew := hx.few
  have hsb := h.blk.lt
  have h0 : ∀ o1 o2 o3 o4, Only [] w ((((w.alloc o1).alloc o2).alloc o3).alloc o4) := fun o1 o2 o3 o4 => ((((Only.refl [] w).alloc _).alloc _).alloc _).alloc _
  have kC : ∀ cs t o2 o3 o4, Blk ((((w.alloc (.cells cs t)).alloc o2).alloc o3).alloc o4) w.heap.size t cs := fun cs t o2 o3 o4 => ((((Only.refl [] _).alloc o2).alloc o3).alloc o4).blk (Blk.new w t cs) (by simp)
  have kX : ∀ cs t o1 o3 o4, Blk ((((w.alloc o1).alloc (.cells cs t)).alloc o3).alloc o4) (w.heap.size + 1) t cs := fun cs t o1 o3 o4 => by
    have := (((Only.refl [] _).alloc o3).alloc o4).blk (Blk.new (w.alloc o1) t cs) (by simp)
    simpa using this
  have kA : ∀ cs t o1 o2 o4, Blk ((((w.alloc o1).alloc o2).alloc (.cells cs t)).alloc o4) (w.heap.size + 1 + 1) t cs := fun cs t o1 o2 o4 => by
    have := ((Only.refl [] _).alloc o4).blk (Blk.new ((w.alloc o1).alloc o2) t cs) (by simp)
    simpa using this
  have kY : ∀ cs t o1 o2 o3, Blk ((((w.alloc o1).alloc o2).alloc o3).alloc (.cells cs t)) (w.heap.size + 1 + 1 + 1) t cs := fun cs t o1 o2 o3 => by
    have := Blk.new (((w.alloc o1).alloc o2).alloc o3) t cs
    simpa using this
  have c0 : w.cell? ⟨sb, 0, none⟩ = some (.slice A2 s.all.length cap2) := by rw [← hav]; exact h.blk.cell 0
  have F0 := fun o1 o2 o3 o4 => Within.cell (S := []) (((h0 o1 o2 o3 o4).cell hsb (by simp)).trans c0) (by simp)
  have X0 := fun v a b d f g t o1 o3 o4 => Within.cell (S := []) ((kX #[v, a, b, d, f, g] t o1 o3 o4).cell 0) (by simp)
  subst hpv hev
  obtain ⟨R, hR⟩ : ∃ R, R = s.act c x := ⟨_, rfl⟩
  rw [← hR]
  have HR := Lib.hid hR
  clear hR c0
  rw [show c.val (.slice A1 c.events.length cap1) = .agg #[.int .i64 c.kind, .int .i64 c.time, .string c.stream, .int .i64 c.expected, .slice A1 c.events.length cap1, .int .i64 c.mt.maxCount, .int .i64 c.mt.maxAge, .int .i64 c.mt.before] from rfl,
    show x.val (.slice A x.places.length cap) = .agg #[.slice A x.places.length cap, .int .i64 x.mt.maxCount, .int .i64 x.mt.maxAge, .int .i64 x.mt.before, .int .i64 x.floor, .bool x.deleted] from rfl]
  have hk1 : ((c.kind : Int) == 2) = true := by simpa using hk
  have HK := Lib.hid hk
  clear hk
  go_enter Tryz.func23, Tryz.ntmps23
  go_wp2_with fail
  refine wp_region_in [] [0, 1, 2, 3, 4, 5, 6, 7, 8] [9] [10] (by kernel_rfl) (by kernel_rfl) (by intro c d u a w h; cases d <;> exact h) ?_
  show wpQuiet _ _ _ _ [_, _, _, _, _, _, _, _, _] _
  repeat (go_big_quiet_step (fail))
  refine wpQuiet_nil ?_
  show wpList _ _ _ [_] _ _
  go_wp2_with fail
  refine check_of (S := []) (((Only.refl [] _).alloc _).drew) ?_
  show wpList _ _ _ [_] _ _
  clear F0 X0
  go_wp2_with fail
  have k5 : ∀ o1 o2 o3 o4 o5, Only [] w (((((w.alloc o1).alloc o2).alloc o3).alloc o4).alloc o5).drew := fun o1 o2 o3 o4 o5 => ((h0 o1 o2 o3 o4).alloc o5).drew
  have kH : ∀ cs t o1 o2 o3 o4, Blk (((((w.alloc o1).alloc o2).alloc o3).alloc o4).alloc (.cells cs t)).drew (w.heap.size + 1 + 1 + 1 + 1) t cs := fun cs t o1 o2 o3 o4 => by
    have := (Only.refl [] _).drew.blk (Blk.new ((((w.alloc o1).alloc o2).alloc o3).alloc o4) t cs) (by simp <;> omega)
    simpa using this
  have kX : ∀ cs t o1 o3 o4 o5, Blk (((((w.alloc o1).alloc (.cells cs t)).alloc o3).alloc o4).alloc o5).drew (w.heap.size + 1) t cs := fun cs t o1 o3 o4 o5 => ((Only.refl [] _).alloc o5).drew.blk (kX cs t o1 o3 o4) (by simp <;> omega)
  have kA : ∀ cs t o1 o2 o4 o5, Blk (((((w.alloc o1).alloc o2).alloc (.cells cs t)).alloc o4).alloc o5).drew (w.heap.size + 1 + 1) t cs := fun cs t o1 o2 o4 o5 => ((Only.refl [] _).alloc o5).drew.blk (kA cs t o1 o2 o4) (by simp <;> omega)
  have kY : ∀ cs t o1 o2 o3 o5, Blk (((((w.alloc o1).alloc o2).alloc o3).alloc (.cells cs t)).alloc o5).drew (w.heap.size + 1 + 1 + 1) t cs := fun cs t o1 o2 o3 o5 => ((Only.refl [] _).alloc o5).drew.blk (kY cs t o1 o2 o3) (by simp <;> omega)
  have kS : ∀ o1 o2 o3 o4 o5, StAt (((((w.alloc o1).alloc o2).alloc o3).alloc o4).alloc o5).drew M sb mb av pf s := fun o1 o2 o3 o4 o5 => h.only0 (k5 o1 o2 o3 o4 o5)
  have H0 := fun v a b d o1 o2 o3 o4 => Within.cell (S := [w.heap.size + 1 + 1]) ((kH #[v, a, b, d] 34 o1 o2 o3 o4).cell 0) (by simp <;> omega)
  have H1 := fun v a b d o1 o2 o3 o4 => Within.cell (S := [w.heap.size + 1 + 1]) ((kH #[v, a, b, d] 34 o1 o2 o3 o4).cell 1) (by simp <;> omega)
  have H2 := fun v a b d o1 o2 o3 o4 => Within.cell (S := [w.heap.size + 1 + 1]) ((kH #[v, a, b, d] 34 o1 o2 o3 o4).cell 2) (by simp <;> omega)
  have H3 := fun v a b d o1 o2 o3 o4 => Within.cell (S := [w.heap.size + 1 + 1]) ((kH #[v, a, b, d] 34 o1 o2 o3 o4).cell 3) (by simp <;> omega)
  have X0 := fun v a b d f g o1 o3 o4 o5 => Within.cell (S := [w.heap.size + 1 + 1]) ((kX #[v, a, b, d, f, g] 75 o1 o3 o4 o5).cell 0) (by simp <;> omega)
  have X1 := fun v a b d f g o1 o3 o4 o5 => Within.cell (S := [w.heap.size + 1 + 1]) ((kX #[v, a, b, d, f, g] 75 o1 o3 o4 o5).cell 1) (by simp <;> omega)
  have X2 := fun v a b d f g o1 o3 o4 o5 => Within.cell (S := [w.heap.size + 1 + 1]) ((kX #[v, a, b, d, f, g] 75 o1 o3 o4 o5).cell 2) (by simp <;> omega)
  have X3 := fun v a b d f g o1 o3 o4 o5 => Within.cell (S := [w.heap.size + 1 + 1]) ((kX #[v, a, b, d, f, g] 75 o1 o3 o4 o5).cell 3) (by simp <;> omega)
  have X4 := fun v a b d f g o1 o3 o4 o5 => Within.cell (S := [w.heap.size + 1 + 1]) ((kX #[v, a, b, d, f, g] 75 o1 o3 o4 o5).cell 4) (by simp <;> omega)
  have X5 := fun v a b d f g o1 o3 o4 o5 => Within.cell (S := [w.heap.size + 1 + 1]) ((kX #[v, a, b, d, f, g] 75 o1 o3 o4 o5).cell 5) (by simp <;> omega)
  refine wp_region_in [w.heap.size + 1 + 1] [0, 1] [2] [3] (by kernel_rfl) (by kernel_rfl) (by intro c d u a w h; cases d <;> exact h) ?_
  show wpQuiet _ _ _ _ [_, _] _
  repeat (go_big_quiet_step (fail))
  refine wpQuiet_nil ?_
  show wpList _ _ _ [_] _ _
  go_wp2_with fail
  refine check_of (S := [w.heap.size + 1 + 1]) (turned w _ _ _ _ _ _).drew.drew ?_
  show wpList _ _ _ [_] _ _
  go_wp2
  have hR := HR.out
  subst hR
  clear HR H0 H1 H2 H3 X0 X1 X2 X3 X4 X5
  have hbA := fun cs o1 o2 o4 o5 i => ((Only.refl [] _).drew.blk (kA cs 29 o1 o2 o4 o5) (by simp)).cell i
  have hbY := fun cs o1 o2 o3 o5 i => ((Only.refl [] _).drew.blk (kY cs 77 o1 o2 o3 o5) (by simp)).cell i
  refine bodyPost_ret (v := .tuple #[.agg #[.int .i64 0, .int .i64 x.places.length, .int .i64 s.all.length, .bool false], .agg #[.slice A x.places.length cap, .int .i64 c.mt.maxCount, .int .i64 c.mt.maxAge, .int .i64 c.mt.before, .int .i64 x.floor, .bool x.deleted]]) (by simp [results, Tryz.results23, go_sem, hbA, hbY]) rfl ⟨.slice A x.places.length cap, ?_⟩
  have hE : s.act c x = (⟨0, x.places.length, s.all.length, false⟩, { x with mt := c.mt }, s) := by
    have := HK.out
    unfold MS.act
    rw [if_pos (by simpa using this)]
  rw [hE]
  refine ⟨rfl, ActLeads.same h hp ?hw⟩
  case hw => exact (k5 _ _ _ _ _).drew
set_option maxRecDepth 100000 in
set_option maxHeartbeats 4000000 in
theorem act_delYes {w : World} {M : List Nat} {sb mb : Nat} {av pv ev : Value} {pf : ByteArray → Value} {s : MS} {x : StreamR} {c : Cmd} (h : StAt w M sb mb av pf s) (hx : XOk s x) (hp : Rd M w 1 pv x.places.length (ints x.places))
    (he : Rd M w 4 ev c.events.length (c.events.flatMap EventR.cells)) (hl : s.all.length ≤ 1000000) (hk : c.kind = 3) (hexp : expected c.expected x.places.length = true) :
    Calls Tryz.prog 23 #[.pointer (some ⟨sb, 0, none⟩), c.val ev, x.val pv] w fun e w' => ∃ pv', e = .returned (.tuple #[(s.act c x).1.val, (s.act c x).2.1.val pv']) ∧ ActLeads w M sb mb av pf (s.act c x).2.1 (s.act c x).2.2 pv' w' := by
  obtain ⟨A, cap, hpv, hn1, hn2, hps⟩ := hp.1.openI
  obtain ⟨A1, cap1, hev, hn3, hn4, hes⟩ := he.1.openE EventR.cells (fun _ => rfl)
  obtain ⟨A2, cap2, hav, hnc2, hcm2, hel2⟩ := h.cell
  unfold maxLen at hn2 hn4 hcm2
  have hfew := hx.few
  have hsb := h.blk.lt
  have h0 : ∀ o1 o2 o3 o4, Only [] w ((((w.alloc o1).alloc o2).alloc o3).alloc o4) := fun o1 o2 o3 o4 => ((((Only.refl [] w).alloc _).alloc _).alloc _).alloc _
  have kC : ∀ cs t o2 o3 o4, Blk ((((w.alloc (.cells cs t)).alloc o2).alloc o3).alloc o4) w.heap.size t cs := fun cs t o2 o3 o4 => ((((Only.refl [] _).alloc o2).alloc o3).alloc o4).blk (Blk.new w t cs) (by simp)
  have kX : ∀ cs t o1 o3 o4, Blk ((((w.alloc o1).alloc (.cells cs t)).alloc o3).alloc o4) (w.heap.size + 1) t cs := fun cs t o1 o3 o4 => by
    have := (((Only.refl [] _).alloc o3).alloc o4).blk (Blk.new (w.alloc o1) t cs) (by simp)
    simpa using this
  have kA : ∀ cs t o1 o2 o4, Blk ((((w.alloc o1).alloc o2).alloc (.cells cs t)).alloc o4) (w.heap.size + 1 + 1) t cs := fun cs t o1 o2 o4 => by
    have := ((Only.refl [] _).alloc o4).blk (Blk.new ((w.alloc o1).alloc o2) t cs) (by simp)
    simpa using this
  have kY : ∀ cs t o1 o2 o3, Blk ((((w.alloc o1).alloc o2).alloc o3).alloc (.cells cs t)) (w.heap.size + 1 + 1 + 1) t cs := fun cs t o1 o2 o3 => by
    have := Blk.new (((w.alloc o1).alloc o2).alloc o3) t cs
    simpa using this
  have c0 : w.cell? ⟨sb, 0, none⟩ = some (.slice A2 s.all.length cap2) := by rw [← hav]; exact h.blk.cell 0
  have F0 := fun o1 o2 o3 o4 => Within.cell (S := []) (((h0 o1 o2 o3 o4).cell hsb (by simp)).trans c0) (by simp)
  have X0 := fun v a b d f g t o1 o3 o4 => Within.cell (S := []) ((kX #[v, a, b, d, f, g] t o1 o3 o4).cell 0) (by simp)
  subst hpv hev
  obtain ⟨R, hR⟩ : ∃ R, R = s.act c x := ⟨_, rfl⟩
  rw [← hR]
  have HR := Lib.hid hR
  clear hR c0
  rw [show c.val (.slice A1 c.events.length cap1) = .agg #[.int .i64 c.kind, .int .i64 c.time, .string c.stream, .int .i64 c.expected, .slice A1 c.events.length cap1, .int .i64 c.mt.maxCount, .int .i64 c.mt.maxAge, .int .i64 c.mt.before] from rfl,
    show x.val (.slice A x.places.length cap) = .agg #[.slice A x.places.length cap, .int .i64 x.mt.maxCount, .int .i64 x.mt.maxAge, .int .i64 x.mt.before, .int .i64 x.floor, .bool x.deleted] from rfl]
  have hk1 : ((c.kind : Int) == 2) = false := by rw [beq_eq_false_iff_ne]; omega
  have hk2 : ((c.kind : Int) == 3) = true := by rw [beq_iff_eq]; omega
  have HK := Lib.hid hk
  have HX := Lib.hid hexp
  have HE := Lib.hid (fun W => (expected_any c.expected x.places.length W ⟨by omega, by omega⟩))
  rw [hexp] at HE
  clear hk hexp
  go_enter Tryz.func23, Tryz.ntmps23
  go_wp2_with fail
  refine wp_region_in [] [0, 1, 2, 3, 4, 5, 6, 7, 8] [9] [10] (by kernel_rfl) (by kernel_rfl) (by intro c d u a w h; cases d <;> exact h) ?_
  show wpQuiet _ _ _ _ [_, _, _, _, _, _, _, _, _] _
  repeat (go_big_quiet_step (fail))
  refine wpQuiet_nil ?_
  show wpList _ _ _ [_] _ _
  go_wp2_with fail
  refine check_of (S := []) (((Only.refl [] _).alloc _).drew) ?_
  show wpList _ _ _ [_] _ _
  clear F0 X0
  go_wp2_with fail
  have k5 : ∀ o1 o2 o3 o4 o5, Only [] w (((((w.alloc o1).alloc o2).alloc o3).alloc o4).alloc o5).drew := fun o1 o2 o3 o4 o5 => ((h0 o1 o2 o3 o4).alloc o5).drew
  have kH : ∀ cs t o1 o2 o3 o4, Blk (((((w.alloc o1).alloc o2).alloc o3).alloc o4).alloc (.cells cs t)).drew (w.heap.size + 1 + 1 + 1 + 1) t cs := fun cs t o1 o2 o3 o4 => by
    have := (Only.refl [] _).drew.blk (Blk.new ((((w.alloc o1).alloc o2).alloc o3).alloc o4) t cs) (by simp <;> omega)
    simpa using this
  have kX : ∀ cs t o1 o3 o4 o5, Blk (((((w.alloc o1).alloc (.cells cs t)).alloc o3).alloc o4).alloc o5).drew (w.heap.size + 1) t cs := fun cs t o1 o3 o4 o5 => ((Only.refl [] _).alloc o5).drew.blk (kX cs t o1 o3 o4) (by simp <;> omega)
  have kA : ∀ cs t o1 o2 o4 o5, Blk (((((w.alloc o1).alloc o2).alloc (.cells cs t)).alloc o4).alloc o5).drew (w.heap.size + 1 + 1) t cs := fun cs t o1 o2 o4 o5 => ((Only.refl [] _).alloc o5).drew.blk (kA cs t o1 o2 o4) (by simp <;> omega)
  have kY : ∀ cs t o1 o2 o3 o5, Blk (((((w.alloc o1).alloc o2).alloc o3).alloc (.cells cs t)).alloc o5).drew (w.heap.size + 1 + 1 + 1) t cs := fun cs t o1 o2 o3 o5 => ((Only.refl [] _).alloc o5).drew.blk (kY cs t o1 o2 o3) (by simp <;> omega)
  have kS : ∀ o1 o2 o3 o4 o5, StAt (((((w.alloc o1).alloc o2).alloc o3).alloc o4).alloc o5).drew M sb mb av pf s := fun o1 o2 o3 o4 o5 => h.only0 (k5 o1 o2 o3 o4 o5)
  go_wp2_with (go_at_call 59; refine (HE.out _).mono ?_; rintro e w1 ⟨rfl, hWE⟩; subst hWE)
  have H0 := fun v a b d o1 o2 o3 o4 => Within.cell (S := [w.heap.size + 1 + 1]) ((kH #[v, a, b, d] 34 o1 o2 o3 o4).cell 0) (by simp <;> omega)
  have H1 := fun v a b d o1 o2 o3 o4 => Within.cell (S := [w.heap.size + 1 + 1]) ((kH #[v, a, b, d] 34 o1 o2 o3 o4).cell 1) (by simp <;> omega)
  have H2 := fun v a b d o1 o2 o3 o4 => Within.cell (S := [w.heap.size + 1 + 1]) ((kH #[v, a, b, d] 34 o1 o2 o3 o4).cell 2) (by simp <;> omega)
  have H3 := fun v a b d o1 o2 o3 o4 => Within.cell (S := [w.heap.size + 1 + 1]) ((kH #[v, a, b, d] 34 o1 o2 o3 o4).cell 3) (by simp <;> omega)
  have X0 := fun v a b d f g o1 o3 o4 o5 => Within.cell (S := [w.heap.size + 1 + 1]) ((kX #[v, a, b, d, f, g] 75 o1 o3 o4 o5).cell 0) (by simp <;> omega)
  have X1 := fun v a b d f g o1 o3 o4 o5 => Within.cell (S := [w.heap.size + 1 + 1]) ((kX #[v, a, b, d, f, g] 75 o1 o3 o4 o5).cell 1) (by simp <;> omega)
  have X2 := fun v a b d f g o1 o3 o4 o5 => Within.cell (S := [w.heap.size + 1 + 1]) ((kX #[v, a, b, d, f, g] 75 o1 o3 o4 o5).cell 2) (by simp <;> omega)
  have X3 := fun v a b d f g o1 o3 o4 o5 => Within.cell (S := [w.heap.size + 1 + 1]) ((kX #[v, a, b, d, f, g] 75 o1 o3 o4 o5).cell 3) (by simp <;> omega)
  have X4 := fun v a b d f g o1 o3 o4 o5 => Within.cell (S := [w.heap.size + 1 + 1]) ((kX #[v, a, b, d, f, g] 75 o1 o3 o4 o5).cell 4) (by simp <;> omega)
  have X5 := fun v a b d f g o1 o3 o4 o5 => Within.cell (S := [w.heap.size + 1 + 1]) ((kX #[v, a, b, d, f, g] 75 o1 o3 o4 o5).cell 5) (by simp <;> omega)
  refine wp_region_in [w.heap.size + 1 + 1] [0, 1] [2] [3] (by kernel_rfl) (by kernel_rfl) (by intro c d u a w h; cases d <;> exact h) ?_
  show wpQuiet _ _ _ _ [_, _] _
  repeat (go_big_quiet_step (fail))
  refine wpQuiet_nil ?_
  show wpList _ _ _ [_] _ _
  go_wp2_with fail
  refine check_of (S := [w.heap.size + 1 + 1]) (turned w _ _ _ _ _ _).drew.drew ?_
  show wpList _ _ _ [_] _ _
  go_wp2
  have hR := HR.out
  subst hR
  clear HR H0 H1 H2 H3 X0 X1 X2 X3 X4 X5
  have hbA := fun cs o1 o2 o4 o5 i => ((Only.refl [] _).drew.blk (kA cs 34 o1 o2 o4 o5) (by simp)).cell i
  have hbY := fun cs o1 o2 o3 o5 i => ((Only.refl [] _).drew.blk (kY cs 75 o1 o2 o3 o5) (by simp)).cell i
  refine bodyPost_ret (v := .tuple #[.agg #[.int .i64 0, .int .i64 x.places.length, .int .i64 s.all.length, .bool false], .agg #[.slice A x.places.length cap, .int .i64 x.mt.maxCount, .int .i64 x.mt.maxAge, .int .i64 x.mt.before, .int .i64 x.floor, .bool true]]) (by simp [results, Tryz.results23, go_sem, hbA, hbY]) rfl ⟨.slice A x.places.length cap, ?_⟩
  have hE : s.act c x = (⟨0, x.places.length, s.all.length, false⟩, { x with deleted := true }, s) := by
    have := HK.out
    unfold MS.act
    rw [if_neg (by omega), if_pos (by omega), HX.out, if_pos rfl]
  rw [hE]
  refine ⟨rfl, ActLeads.same h hp ?hw⟩
  case hw => exact (k5 _ _ _ _ _).drew
set_option maxRecDepth 100000 in
set_option maxHeartbeats 4000000 in
theorem act_delNo {w : World} {M : List Nat} {sb mb : Nat} {av pv ev : Value} {pf : ByteArray → Value} {s : MS} {x : StreamR} {c : Cmd} (h : StAt w M sb mb av pf s) (hx : XOk s x) (hp : Rd M w 1 pv x.places.length (ints x.places))
    (he : Rd M w 4 ev c.events.length (c.events.flatMap EventR.cells)) (hl : s.all.length ≤ 1000000) (hk : c.kind = 3) (hexp : expected c.expected x.places.length = false) :
    Calls Tryz.prog 23 #[.pointer (some ⟨sb, 0, none⟩), c.val ev, x.val pv] w fun e w' => ∃ pv', e = .returned (.tuple #[(s.act c x).1.val, (s.act c x).2.1.val pv']) ∧ ActLeads w M sb mb av pf (s.act c x).2.1 (s.act c x).2.2 pv' w' := by
  obtain ⟨A, cap, hpv, hn1, hn2, hps⟩ := hp.1.openI
  obtain ⟨A1, cap1, hev, hn3, hn4, hes⟩ := he.1.openE EventR.cells (fun _ => rfl)
  obtain ⟨A2, cap2, hav, hnc2, hcm2, hel2⟩ := h.cell
  unfold maxLen at hn2 hn4 hcm2
  have hfew := hx.few
  have hsb := h.blk.lt
  have h0 : ∀ o1 o2 o3 o4, Only [] w ((((w.alloc o1).alloc o2).alloc o3).alloc o4) := fun o1 o2 o3 o4 => ((((Only.refl [] w).alloc _).alloc _).alloc _).alloc _
  have kC : ∀ cs t o2 o3 o4, Blk ((((w.alloc (.cells cs t)).alloc o2).alloc o3).alloc o4) w.heap.size t cs := fun cs t o2 o3 o4 => ((((Only.refl [] _).alloc o2).alloc o3).alloc o4).blk (Blk.new w t cs) (by simp)
  have kX : ∀ cs t o1 o3 o4, Blk ((((w.alloc o1).alloc (.cells cs t)).alloc o3).alloc o4) (w.heap.size + 1) t cs := fun cs t o1 o3 o4 => by
    have := (((Only.refl [] _).alloc o3).alloc o4).blk (Blk.new (w.alloc o1) t cs) (by simp)
    simpa using this
  have kA : ∀ cs t o1 o2 o4, Blk ((((w.alloc o1).alloc o2).alloc (.cells cs t)).alloc o4) (w.heap.size + 1 + 1) t cs := fun cs t o1 o2 o4 => by
    have := ((Only.refl [] _).alloc o4).blk (Blk.new ((w.alloc o1).alloc o2) t cs) (by simp)
    simpa using this
  have kY : ∀ cs t o1 o2 o3, Blk ((((w.alloc o1).alloc o2).alloc o3).alloc (.cells cs t)) (w.heap.size + 1 + 1 + 1) t cs := fun cs t o1 o2 o3 => by
    have := Blk.new (((w.alloc o1).alloc o2).alloc o3) t cs
    simpa using this
  have c0 : w.cell? ⟨sb, 0, none⟩ = some (.slice A2 s.all.length cap2) := by rw [← hav]; exact h.blk.cell 0
  have F0 := fun o1 o2 o3 o4 => Within.cell (S := []) (((h0 o1 o2 o3 o4).cell hsb (by simp)).trans c0) (by simp)
  have X0 := fun v a b d f g t o1 o3 o4 => Within.cell (S := []) ((kX #[v, a, b, d, f, g] t o1 o3 o4).cell 0) (by simp)
  subst hpv hev
  obtain ⟨R, hR⟩ : ∃ R, R = s.act c x := ⟨_, rfl⟩
  rw [← hR]
  have HR := Lib.hid hR
  clear hR c0
  rw [show c.val (.slice A1 c.events.length cap1) = .agg #[.int .i64 c.kind, .int .i64 c.time, .string c.stream, .int .i64 c.expected, .slice A1 c.events.length cap1, .int .i64 c.mt.maxCount, .int .i64 c.mt.maxAge, .int .i64 c.mt.before] from rfl,
    show x.val (.slice A x.places.length cap) = .agg #[.slice A x.places.length cap, .int .i64 x.mt.maxCount, .int .i64 x.mt.maxAge, .int .i64 x.mt.before, .int .i64 x.floor, .bool x.deleted] from rfl]
  have HWr := Lib.hid (fun (W : World) (hw : Only [] w W) => show Calls Tryz.prog 60 #[.agg #[.slice A x.places.length cap, .int .i64 x.mt.maxCount, .int .i64 x.mt.maxAge, .int .i64 x.mt.before, .int .i64 x.floor, .bool x.deleted]] W fun e w' => e = .returned (.agg #[.int .i64 22, .int .i64 ((x.places.length : Int) - 1), .int .i64 0, .bool false]) ∧ Only [] W w' from wrong_any (x := x) (hp.1.only0 hw) (by omega))
  have hk1 : ((c.kind : Int) == 2) = false := by rw [beq_eq_false_iff_ne]; omega
  have hk2 : ((c.kind : Int) == 3) = true := by rw [beq_iff_eq]; omega
  have HK := Lib.hid hk
  have HX := Lib.hid hexp
  have HE := Lib.hid (fun W => (expected_any c.expected x.places.length W ⟨by omega, by omega⟩))
  rw [hexp] at HE
  clear hk hexp
  go_enter Tryz.func23, Tryz.ntmps23
  go_wp2_with fail
  refine wp_region_in [] [0, 1, 2, 3, 4, 5, 6, 7, 8] [9] [10] (by kernel_rfl) (by kernel_rfl) (by intro c d u a w h; cases d <;> exact h) ?_
  show wpQuiet _ _ _ _ [_, _, _, _, _, _, _, _, _] _
  repeat (go_big_quiet_step (fail))
  refine wpQuiet_nil ?_
  show wpList _ _ _ [_] _ _
  go_wp2_with fail
  refine check_of (S := []) (((Only.refl [] _).alloc _).drew) ?_
  show wpList _ _ _ [_] _ _
  clear F0 X0
  go_wp2_with fail
  have k5 : ∀ o1 o2 o3 o4 o5, Only [] w (((((w.alloc o1).alloc o2).alloc o3).alloc o4).alloc o5).drew := fun o1 o2 o3 o4 o5 => ((h0 o1 o2 o3 o4).alloc o5).drew
  have kH : ∀ cs t o1 o2 o3 o4, Blk (((((w.alloc o1).alloc o2).alloc o3).alloc o4).alloc (.cells cs t)).drew (w.heap.size + 1 + 1 + 1 + 1) t cs := fun cs t o1 o2 o3 o4 => by
    have := (Only.refl [] _).drew.blk (Blk.new ((((w.alloc o1).alloc o2).alloc o3).alloc o4) t cs) (by simp <;> omega)
    simpa using this
  have kX : ∀ cs t o1 o3 o4 o5, Blk (((((w.alloc o1).alloc (.cells cs t)).alloc o3).alloc o4).alloc o5).drew (w.heap.size + 1) t cs := fun cs t o1 o3 o4 o5 => ((Only.refl [] _).alloc o5).drew.blk (kX cs t o1 o3 o4) (by simp <;> omega)
  have kA : ∀ cs t o1 o2 o4 o5, Blk (((((w.alloc o1).alloc o2).alloc (.cells cs t)).alloc o4).alloc o5).drew (w.heap.size + 1 + 1) t cs := fun cs t o1 o2 o4 o5 => ((Only.refl [] _).alloc o5).drew.blk (kA cs t o1 o2 o4) (by simp <;> omega)
  have kY : ∀ cs t o1 o2 o3 o5, Blk (((((w.alloc o1).alloc o2).alloc o3).alloc (.cells cs t)).alloc o5).drew (w.heap.size + 1 + 1 + 1) t cs := fun cs t o1 o2 o3 o5 => ((Only.refl [] _).alloc o5).drew.blk (kY cs t o1 o2 o3) (by simp <;> omega)
  have kS : ∀ o1 o2 o3 o4 o5, StAt (((((w.alloc o1).alloc o2).alloc o3).alloc o4).alloc o5).drew M sb mb av pf s := fun o1 o2 o3 o4 o5 => h.only0 (k5 o1 o2 o3 o4 o5)
  go_wp2_with (go_at_call 59; refine (HE.out _).mono ?_; rintro e w1 ⟨rfl, hWE⟩; subst hWE)
  have H0 := fun v a b d o1 o2 o3 o4 => Within.cell (S := [w.heap.size + 1 + 1]) ((kH #[v, a, b, d] 34 o1 o2 o3 o4).cell 0) (by simp <;> omega)
  have H1 := fun v a b d o1 o2 o3 o4 => Within.cell (S := [w.heap.size + 1 + 1]) ((kH #[v, a, b, d] 34 o1 o2 o3 o4).cell 1) (by simp <;> omega)
  have H2 := fun v a b d o1 o2 o3 o4 => Within.cell (S := [w.heap.size + 1 + 1]) ((kH #[v, a, b, d] 34 o1 o2 o3 o4).cell 2) (by simp <;> omega)
  have H3 := fun v a b d o1 o2 o3 o4 => Within.cell (S := [w.heap.size + 1 + 1]) ((kH #[v, a, b, d] 34 o1 o2 o3 o4).cell 3) (by simp <;> omega)
  have X0 := fun v a b d f g o1 o3 o4 o5 => Within.cell (S := [w.heap.size + 1 + 1]) ((kX #[v, a, b, d, f, g] 75 o1 o3 o4 o5).cell 0) (by simp <;> omega)
  have X1 := fun v a b d f g o1 o3 o4 o5 => Within.cell (S := [w.heap.size + 1 + 1]) ((kX #[v, a, b, d, f, g] 75 o1 o3 o4 o5).cell 1) (by simp <;> omega)
  have X2 := fun v a b d f g o1 o3 o4 o5 => Within.cell (S := [w.heap.size + 1 + 1]) ((kX #[v, a, b, d, f, g] 75 o1 o3 o4 o5).cell 2) (by simp <;> omega)
  have X3 := fun v a b d f g o1 o3 o4 o5 => Within.cell (S := [w.heap.size + 1 + 1]) ((kX #[v, a, b, d, f, g] 75 o1 o3 o4 o5).cell 3) (by simp <;> omega)
  have X4 := fun v a b d f g o1 o3 o4 o5 => Within.cell (S := [w.heap.size + 1 + 1]) ((kX #[v, a, b, d, f, g] 75 o1 o3 o4 o5).cell 4) (by simp <;> omega)
  have X5 := fun v a b d f g o1 o3 o4 o5 => Within.cell (S := [w.heap.size + 1 + 1]) ((kX #[v, a, b, d, f, g] 75 o1 o3 o4 o5).cell 5) (by simp <;> omega)
  refine wp_region_in [w.heap.size + 1 + 1] [0, 2] [1, 3] [4] (by kernel_rfl) (by kernel_rfl) (by intro c d u a w h; cases d <;> exact h) ?_
  show wpQuiet _ _ _ _ [_, _] _
  repeat (go_big_quiet_step (fail))
  refine wpQuiet_nil ?_
  show wpList _ _ _ [_] _ _
  go_wp2_with (go_at_call 60; refine (HWr.out _ (k5 _ _ _ _ _).drew).mono ?_; rintro e w1 ⟨rfl, ho1⟩)
  refine check_of (S := [w.heap.size + 1 + 1]) (((Only.refl [] _).drew.trans ho1).of_nil) ?_
  show wpList _ _ _ [_] _ _
  have hA1 := fun i => (ho1.blk ((Only.refl [] _).drew.blk (kA _ _ _ _ _ _) (by simp)) (by simp <;> omega)).cell i
  have hA1f := fun i => (ho1.blk ((Only.refl [] _).drew.blk (kA _ _ _ _ _ _) (by simp)) (by simp <;> omega)).free i
  have hY1 := fun i => (ho1.blk ((Only.refl [] _).drew.blk (kY _ _ _ _ _ _) (by simp)) (by simp <;> omega)).cell i
  have hY1f := fun i => (ho1.blk ((Only.refl [] _).drew.blk (kY _ _ _ _ _ _) (by simp)) (by simp <;> omega)).free i
  go_wp2_with fail
  refine check_of (S := [w.heap.size + 1 + 1]) (by repeat (first | exact ((Only.refl [] _).drew.trans ho1).of_nil | refine Only.drew ?_ | refine Only.setCell ?_ (.inl (by simp)) _)) ?_
  show wpList _ _ _ [_] _ _
  go_wp2
  have hR := HR.out
  subst hR
  clear HR H0 H1 H2 H3 X0 X1 X2 X3 X4 X5
  refine bodyPost_ret (v := .tuple #[.agg #[.int .i64 22, .int .i64 ((x.places.length : Int) - 1), .int .i64 0, .bool false], .agg #[.slice A x.places.length cap, .int .i64 x.mt.maxCount, .int .i64 x.mt.maxAge, .int .i64 x.mt.before, .int .i64 x.floor, .bool x.deleted]]) (by simp [results, Tryz.results23, go_sem, hA1, hY1]) rfl ⟨.slice A x.places.length cap, ?_⟩
  have hE : s.act c x = (wrong x, x, s) := by
    have := HK.out
    unfold MS.act
    rw [if_neg (by omega), if_pos (by omega), HX.out, if_neg (by decide)]
  rw [hE]
  refine ⟨rfl, ActLeads.same h hp ?hw⟩
  case hw =>
    iterate 10 (refine Only.setCell ?_ (.inr (by simp <;> omega)) _)
    exact (k5 _ _ _ _ _).drew.trans ho1
end
section
open Go.RowKit
theorem firstOf_cases (all : List StoredR) (id : Int) : ∀ (ps : List Int) (k : Int), firstOf all id ps k = -1 ∨ (k ≤ firstOf all id ps k ∧ firstOf all id ps k < k + ps.length)
  | [], _ => .inl rfl
  | p :: l, k => by
    unfold firstOf
    split
    · right
      simp
      omega
    · rcases firstOf_cases all id l (k + 1) with q | q
      · exact .inl q
      · right
        simp
        omega
theorem first_cases (s : MS) (x : StreamR) (id : Int) : s.first x id = -1 ∨ ∃ v : Nat, s.first x id = v ∧ v < x.places.length := by
  rcases firstOf_cases s.all id x.places 0 with q | ⟨q1, q2⟩
  · exact .inl q
  · refine .inr ⟨(s.first x id).toNat, ?_, ?_⟩ <;> unfold MS.first <;> omega
def headId (c : Cmd) : Int := ((c.events.head?).map (·.id)).getD 0
theorem headId_at {c : Cmd} (h : 0 < c.events.length) : headId c = c.events[0].id := by
  unfold headId
  rw [List.head?_eq_getElem?, List.getElem?_eq_getElem h]
  rfl
set_option maxRecDepth 100000 in
set_option maxHeartbeats 4000000 in
theorem act_again {w : World} {M : List Nat} {sb mb : Nat} {av pv ev : Value} {pf : ByteArray → Value} {s : MS} {x : StreamR} {c : Cmd} (h : StAt w M sb mb av pf s) (hx : XOk s x) (hp : Rd M w 1 pv x.places.length (ints x.places))
    (he : Rd M w 4 ev c.events.length (c.events.flatMap EventR.cells)) (hl : s.all.length ≤ 1000000) (hk : c.kind ≠ 2 ∧ c.kind ≠ 3) (hel : 1 ≤ c.events.length ∧ c.events.length ≤ 8) {v : Nat} (hv : s.first x (headId c) = v) (hvl : v < x.places.length) :
    Calls Tryz.prog 23 #[.pointer (some ⟨sb, 0, none⟩), c.val ev, x.val pv] w fun e w' => ∃ pv', e = .returned (.tuple #[(s.act c x).1.val, (s.act c x).2.1.val pv']) ∧ ActLeads w M sb mb av pf (s.act c x).2.1 (s.act c x).2.2 pv' w' := by
  obtain ⟨A, cap, hpv, hn1, hn2, hps⟩ := hp.1.openI
  obtain ⟨A1, cap1, hev, hn3, hn4, hes⟩ := he.1.openE EventR.cells (fun _ => rfl)
  obtain ⟨A2, cap2, hav, hnc2, hcm2, hel2⟩ := h.cell
  unfold maxLen at hn2 hn4 hcm2
  have hfew := hx.few
  have hsb := h.blk.lt
  have h0 : ∀ o1 o2 o3 o4, Only [] w ((((w.alloc o1).alloc o2).alloc o3).alloc o4) := fun o1 o2 o3 o4 => ((((Only.refl [] w).alloc _).alloc _).alloc _).alloc _
  have kC : ∀ cs t o2 o3 o4, Blk ((((w.alloc (.cells cs t)).alloc o2).alloc o3).alloc o4) w.heap.size t cs := fun cs t o2 o3 o4 => ((((Only.refl [] _).alloc o2).alloc o3).alloc o4).blk (Blk.new w t cs) (by simp)
  have kX : ∀ cs t o1 o3 o4, Blk ((((w.alloc o1).alloc (.cells cs t)).alloc o3).alloc o4) (w.heap.size + 1) t cs := fun cs t o1 o3 o4 => by
    have := (((Only.refl [] _).alloc o3).alloc o4).blk (Blk.new (w.alloc o1) t cs) (by simp)
    simpa using this
  have kA : ∀ cs t o1 o2 o4, Blk ((((w.alloc o1).alloc o2).alloc (.cells cs t)).alloc o4) (w.heap.size + 1 + 1) t cs := fun cs t o1 o2 o4 => by
    have := ((Only.refl [] _).alloc o4).blk (Blk.new ((w.alloc o1).alloc o2) t cs) (by simp)
    simpa using this
  have kY : ∀ cs t o1 o2 o3, Blk ((((w.alloc o1).alloc o2).alloc o3).alloc (.cells cs t)) (w.heap.size + 1 + 1 + 1) t cs := fun cs t o1 o2 o3 => by
    have := Blk.new (((w.alloc o1).alloc o2).alloc o3) t cs
    simpa using this
  have c0 : w.cell? ⟨sb, 0, none⟩ = some (.slice A2 s.all.length cap2) := by rw [← hav]; exact h.blk.cell 0
  have F0 := fun o1 o2 o3 o4 => Within.cell (S := []) (((h0 o1 o2 o3 o4).cell hsb (by simp)).trans c0) (by simp)
  have X0 := fun v a b d f g t o1 o3 o4 => Within.cell (S := []) ((kX #[v, a, b, d, f, g] t o1 o3 o4).cell 0) (by simp)
  subst hpv hev
  obtain ⟨R, hR⟩ : ∃ R, R = s.act c x := ⟨_, rfl⟩
  rw [← hR]
  have HR := Lib.hid hR
  clear hR c0
  rw [show c.val (.slice A1 c.events.length cap1) = .agg #[.int .i64 c.kind, .int .i64 c.time, .string c.stream, .int .i64 c.expected, .slice A1 c.events.length cap1, .int .i64 c.mt.maxCount, .int .i64 c.mt.maxAge, .int .i64 c.mt.before] from rfl,
    show x.val (.slice A x.places.length cap) = .agg #[.slice A x.places.length cap, .int .i64 x.mt.maxCount, .int .i64 x.mt.maxAge, .int .i64 x.mt.before, .int .i64 x.floor, .bool x.deleted] from rfl]
  have hk1 : ((c.kind : Int) == 2) = false := by rw [beq_eq_false_iff_ne]; omega
  have hk2 : ((c.kind : Int) == 3) = false := by rw [beq_eq_false_iff_ne]; omega
  obtain ⟨hel1, hel8⟩ := hel
  obtain ⟨be, offe, rfl, hbe, hce⟩ := hes 0 (by omega)
  have e0 : w.cell? ⟨be, offe, none⟩ = some (.int .i64 (headId c)) := by
    rw [headId_at (by omega)]
    have q := hce 0 (by omega)
    simp only [Nat.zero_mul, Nat.add_zero] at q
    rw [q]
    rfl
  have HFi := Lib.hid (fun (W : World) (hw : Only [] w W) => show Calls Tryz.prog 61 #[.pointer (some ⟨sb, 0, none⟩), .agg #[.slice A x.places.length cap, .int .i64 x.mt.maxCount, .int .i64 x.mt.maxAge, .int .i64 x.mt.before, .int .i64 x.floor, .bool x.deleted], .int .i64 (headId c)] W fun e w' => e = .returned (.int .i64 (s.first x (headId c))) ∧ Only [] W w' from first_any (x := x) (headId c) (h.only0 hw) hx (hp.1.only0 hw))
  have HWr := Lib.hid (fun (W : World) (hw : Only [] w W) => show Calls Tryz.prog 60 #[.agg #[.slice A x.places.length cap, .int .i64 x.mt.maxCount, .int .i64 x.mt.maxAge, .int .i64 x.mt.before, .int .i64 x.floor, .bool x.deleted]] W fun e w' => e = .returned (.agg #[.int .i64 22, .int .i64 ((x.places.length : Int) - 1), .int .i64 0, .bool false]) ∧ Only [] W w' from wrong_any (x := x) (hp.1.only0 hw) (by omega))
  have HE := Lib.hid (fun W => (expected_any c.expected x.places.length W ⟨by omega, by omega⟩))
  have HK := Lib.hid hk
  clear hk
  have hd0 : 0 < c.events.length := by omega
  obtain ⟨id0, hid0⟩ : ∃ i, i = headId c := ⟨_, rfl⟩
  obtain ⟨f, hf⟩ : ∃ f, f = s.first x (headId c) := ⟨_, rfl⟩
  have HF := Lib.hid hf
  rw [← hf, ← hid0] at HFi
  rw [← hid0] at e0
  clear hf hid0
  have HAg := Lib.hid (fun (W : World) (hw : Only [] w W) => show Calls Tryz.prog 62 #[.pointer (some ⟨sb, 0, none⟩), .agg #[.int .i64 c.kind, .int .i64 c.time, .string c.stream, .int .i64 c.expected, .slice (some ⟨be, offe, none⟩) c.events.length cap1, .int .i64 c.mt.maxCount, .int .i64 c.mt.maxAge, .int .i64 c.mt.before], .agg #[.slice A x.places.length cap, .int .i64 x.mt.maxCount, .int .i64 x.mt.maxAge, .int .i64 x.mt.before, .int .i64 x.floor, .bool x.deleted], .int .i64 v] W fun e w' => e = .returned (.agg #[.int .i64 (s.again c x v).err, .int .i64 (s.again c x v).version, .int .i64 (s.again c x v).position, .bool (s.again c x v).again]) ∧ Only [] W w' from again_any (x := x) (c := c) (h.only0 hw) hx (hp.1.only0 hw) (he.1.only0 hw) (by omega) ⟨hel1, hel8⟩ (by omega))
  have hfv : f = v := by rw [HF.out, hv]
  rw [hfv] at HFi
  go_enter Tryz.func23, Tryz.ntmps23
  go_wp2_with fail
  refine wp_region_in [] [0, 1, 2, 3, 4, 5, 6, 7, 8] [9] [10] (by kernel_rfl) (by kernel_rfl) (by intro c d u a w h; cases d <;> exact h) ?_
  show wpQuiet _ _ _ _ [_, _, _, _, _, _, _, _, _] _
  repeat (go_big_quiet_step (fail))
  refine wpQuiet_nil ?_
  show wpList _ _ _ [_] _ _
  go_wp2_with fail
  refine check_of (S := []) (((Only.refl [] _).alloc _).drew) ?_
  show wpList _ _ _ [_] _ _
  clear F0 X0
  go_wp2_with fail
  have k5 : ∀ o1 o2 o3 o4 o5, Only [] w (((((w.alloc o1).alloc o2).alloc o3).alloc o4).alloc o5).drew := fun o1 o2 o3 o4 o5 => ((h0 o1 o2 o3 o4).alloc o5).drew
  have kH : ∀ cs t o1 o2 o3 o4, Blk (((((w.alloc o1).alloc o2).alloc o3).alloc o4).alloc (.cells cs t)).drew (w.heap.size + 1 + 1 + 1 + 1) t cs := fun cs t o1 o2 o3 o4 => by
    have := (Only.refl [] _).drew.blk (Blk.new ((((w.alloc o1).alloc o2).alloc o3).alloc o4) t cs) (by simp <;> omega)
    simpa using this
  have kX : ∀ cs t o1 o3 o4 o5, Blk (((((w.alloc o1).alloc (.cells cs t)).alloc o3).alloc o4).alloc o5).drew (w.heap.size + 1) t cs := fun cs t o1 o3 o4 o5 => ((Only.refl [] _).alloc o5).drew.blk (kX cs t o1 o3 o4) (by simp <;> omega)
  have kA : ∀ cs t o1 o2 o4 o5, Blk (((((w.alloc o1).alloc o2).alloc (.cells cs t)).alloc o4).alloc o5).drew (w.heap.size + 1 + 1) t cs := fun cs t o1 o2 o4 o5 => ((Only.refl [] _).alloc o5).drew.blk (kA cs t o1 o2 o4) (by simp <;> omega)
  have kY : ∀ cs t o1 o2 o3 o5, Blk (((((w.alloc o1).alloc o2).alloc o3).alloc (.cells cs t)).alloc o5).drew (w.heap.size + 1 + 1 + 1) t cs := fun cs t o1 o2 o3 o5 => ((Only.refl [] _).alloc o5).drew.blk (kY cs t o1 o2 o3) (by simp <;> omega)
  have kS : ∀ o1 o2 o3 o4 o5, StAt (((((w.alloc o1).alloc o2).alloc o3).alloc o4).alloc o5).drew M sb mb av pf s := fun o1 o2 o3 o4 o5 => h.only0 (k5 o1 o2 o3 o4 o5)
  have kC : ∀ cs t o2 o3 o4 o5, Blk (((((w.alloc (.cells cs t)).alloc o2).alloc o3).alloc o4).alloc o5).drew w.heap.size t cs := fun cs t o2 o3 o4 o5 => ((Only.refl [] _).alloc o5).drew.blk (kC cs t o2 o3 o4) (by simp)
  go_wp2_with fail
  have X0 := fun v a b d f g o1 o3 o4 o5 => Within.cell (S := []) ((kX #[v, a, b, d, f, g] 75 o1 o3 o4 o5).cell 0) (by simp)
  have X1 := fun v a b d f g o1 o3 o4 o5 => Within.cell (S := []) ((kX #[v, a, b, d, f, g] 75 o1 o3 o4 o5).cell 1) (by simp)
  have X2 := fun v a b d f g o1 o3 o4 o5 => Within.cell (S := []) ((kX #[v, a, b, d, f, g] 75 o1 o3 o4 o5).cell 2) (by simp)
  have X3 := fun v a b d f g o1 o3 o4 o5 => Within.cell (S := []) ((kX #[v, a, b, d, f, g] 75 o1 o3 o4 o5).cell 3) (by simp)
  have X4 := fun v a b d f g o1 o3 o4 o5 => Within.cell (S := []) ((kX #[v, a, b, d, f, g] 75 o1 o3 o4 o5).cell 4) (by simp)
  have X5 := fun v a b d f g o1 o3 o4 o5 => Within.cell (S := []) ((kX #[v, a, b, d, f, g] 75 o1 o3 o4 o5).cell 5) (by simp)
  have C4 := fun a b d e f g i j k o2 o3 o4 o5 => Within.cell (S := []) ((kC #[a, b, d, e, f, g, i, j, k] 40 o2 o3 o4 o5).cell 4) (by simp)
  have C4' := fun a b d e f g i j o2 o3 o4 o5 => Within.cell (S := []) ((kC #[a, b, d, e, f, g, i, j] 40 o2 o3 o4 o5).cell 4) (by simp)
  have E0 := fun o1 o2 o3 o4 o5 => Within.cell (S := []) (((k5 o1 o2 o3 o4 o5).cell hbe (by simp)).trans e0) (by simp)
  refine wp_region_in [] [0, 1, 2, 3, 4, 5, 6] [] [7, 8] (by kernel_rfl) (by kernel_rfl) (by intro c d u a w h; cases d <;> exact h) ?_
  show wpQuiet _ _ _ _ [_, _, _, _, _, _, _] _
  repeat (go_big_quiet_step (fail))
  refine wpQuiet_nil ?_
  show wpList _ _ _ [_, _] _ _
  clear X0 X1 X2 X3 X4 X5 C4 C4' E0
  go_wp2_with (go_at_call 61; refine (HFi.out _ (k5 _ _ _ _ _).drew).mono ?_; rintro e w1 ⟨rfl, ho1⟩)
  have hO1 : Only [] w w1 := (k5 _ _ _ _ _).drew.trans ho1
  have lC := ho1.blk ((Only.refl [] _).drew.blk (kC _ _ _ _ _ _) (by simp)) (by simp)
  have lX := ho1.blk ((Only.refl [] _).drew.blk (kX _ _ _ _ _ _) (by simp)) (by simp)
  have lA := ho1.blk ((Only.refl [] _).drew.blk (kA _ _ _ _ _ _) (by simp)) (by simp)
  have lY := ho1.blk ((Only.refl [] _).drew.blk (kY _ _ _ _ _ _) (by simp)) (by simp)
  have C0 := Within.cell (S := [w.heap.size + 1 + 1]) (lC.cell 0) (by simp <;> omega)
  have C1 := Within.cell (S := [w.heap.size + 1 + 1]) (lC.cell 1) (by simp <;> omega)
  have C2 := Within.cell (S := [w.heap.size + 1 + 1]) (lC.cell 2) (by simp <;> omega)
  have C3 := Within.cell (S := [w.heap.size + 1 + 1]) (lC.cell 3) (by simp <;> omega)
  have C4 := Within.cell (S := [w.heap.size + 1 + 1]) (lC.cell 4) (by simp <;> omega)
  have C5 := Within.cell (S := [w.heap.size + 1 + 1]) (lC.cell 5) (by simp <;> omega)
  have C6 := Within.cell (S := [w.heap.size + 1 + 1]) (lC.cell 6) (by simp <;> omega)
  have C7 := Within.cell (S := [w.heap.size + 1 + 1]) (lC.cell 7) (by simp <;> omega)
  have X0 := Within.cell (S := [w.heap.size + 1 + 1]) (lX.cell 0) (by simp <;> omega)
  have X1 := Within.cell (S := [w.heap.size + 1 + 1]) (lX.cell 1) (by simp <;> omega)
  have X2 := Within.cell (S := [w.heap.size + 1 + 1]) (lX.cell 2) (by simp <;> omega)
  have X3 := Within.cell (S := [w.heap.size + 1 + 1]) (lX.cell 3) (by simp <;> omega)
  have X4 := Within.cell (S := [w.heap.size + 1 + 1]) (lX.cell 4) (by simp <;> omega)
  have X5 := Within.cell (S := [w.heap.size + 1 + 1]) (lX.cell 5) (by simp <;> omega)
  obtain ⟨an, han⟩ : ∃ an, an = s.again c x v := ⟨_, rfl⟩
  rw [← han] at HAg
  have HAN := Lib.hid han
  clear han
  refine wp_region_in [w.heap.size + 1 + 1] [0, 1, 2, 3, 5] [4, 6] [7] (by kernel_rfl) (by kernel_rfl) (by intro c d u a w h; cases d <;> exact h) ?_
  show wpQuiet _ _ _ _ [_, _, _, _, _] _
  repeat (go_big_quiet_step (fail))
  refine wpQuiet_nil ?_
  show wpList _ _ _ [_] _ _
  go_wp2_with (go_at_call 62; refine (HAg.out _ hO1.drew).mono ?_; rintro e w2 ⟨rfl, ho2⟩)
  refine check_of (S := [w.heap.size + 1 + 1]) (((Only.refl [] _).drew.trans ho2).of_nil) ?_
  show wpList _ _ _ [_] _ _
  have ho2' := (Only.refl [] w1).drew.trans ho2
  have hA1 := fun i => (ho2'.blk lA (by simp)).cell i
  have hA1f := fun i => (ho2'.blk lA (by simp)).free i
  have hY1 := fun i => (ho2'.blk lY (by simp)).cell i
  have hY1f := fun i => (ho2'.blk lY (by simp)).free i
  go_wp2_with fail
  refine check_of (S := [w.heap.size + 1 + 1]) (by repeat (first | exact ((Only.refl [] _).drew.trans ho2).of_nil | refine Only.drew ?_ | refine Only.setCell ?_ (.inl (by simp)) _)) ?_
  show wpList _ _ _ [_] _ _
  go_wp2
  have hR := HR.out
  subst hR
  clear HR C0 C1 C2 C3 C4 C5 C6 C7 X0 X1 X2 X3 X4 X5
  refine bodyPost_ret (v := .tuple #[.agg #[.int .i64 an.err, .int .i64 an.version, .int .i64 an.position, .bool an.again], .agg #[.slice A x.places.length cap, .int .i64 x.mt.maxCount, .int .i64 x.mt.maxAge, .int .i64 x.mt.before, .int .i64 x.floor, .bool x.deleted]]) (by simp [results, Tryz.results23, go_sem, hA1, hY1]) rfl ⟨.slice A x.places.length cap, ?_⟩
  have hE : s.act c x = (an, x, s) := by
    have h1 := HK.out
    have h2 := HF.out
    unfold MS.act
    rw [if_neg h1.1, if_neg h1.2]
    show (if 0 ≤ s.first x (headId c) then (s.again c x (s.first x (headId c)), x, s) else _) = _
    rw [hv, if_pos (by omega), HAN.out]
  rw [hE]
  refine ⟨rfl, ActLeads.same h hp ?hw⟩
  case hw =>
    iterate 10 (refine Only.setCell ?_ (.inr (by simp <;> omega)) _)
    exact hO1.drew.trans ho2
set_option maxRecDepth 100000 in
set_option maxHeartbeats 4000000 in
theorem act_late {w : World} {M : List Nat} {sb mb : Nat} {av pv ev : Value} {pf : ByteArray → Value} {s : MS} {x : StreamR} {c : Cmd} (h : StAt w M sb mb av pf s) (hx : XOk s x) (hp : Rd M w 1 pv x.places.length (ints x.places))
    (he : Rd M w 4 ev c.events.length (c.events.flatMap EventR.cells)) (hl : s.all.length ≤ 1000000) (hk : c.kind ≠ 2 ∧ c.kind ≠ 3) (hel : 1 ≤ c.events.length ∧ c.events.length ≤ 8) (hv : s.first x (headId c) = -1) (hexp : expected c.expected x.places.length = false) :
    Calls Tryz.prog 23 #[.pointer (some ⟨sb, 0, none⟩), c.val ev, x.val pv] w fun e w' => ∃ pv', e = .returned (.tuple #[(s.act c x).1.val, (s.act c x).2.1.val pv']) ∧ ActLeads w M sb mb av pf (s.act c x).2.1 (s.act c x).2.2 pv' w' := by
  obtain ⟨A, cap, hpv, hn1, hn2, hps⟩ := hp.1.openI
  obtain ⟨A1, cap1, hev, hn3, hn4, hes⟩ := he.1.openE EventR.cells (fun _ => rfl)
  obtain ⟨A2, cap2, hav, hnc2, hcm2, hel2⟩ := h.cell
  unfold maxLen at hn2 hn4 hcm2
  have hfew := hx.few
  have hsb := h.blk.lt
  have h0 : ∀ o1 o2 o3 o4, Only [] w ((((w.alloc o1).alloc o2).alloc o3).alloc o4) := fun o1 o2 o3 o4 => ((((Only.refl [] w).alloc _).alloc _).alloc _).alloc _
  have kC : ∀ cs t o2 o3 o4, Blk ((((w.alloc (.cells cs t)).alloc o2).alloc o3).alloc o4) w.heap.size t cs := fun cs t o2 o3 o4 => ((((Only.refl [] _).alloc o2).alloc o3).alloc o4).blk (Blk.new w t cs) (by simp)
  have kX : ∀ cs t o1 o3 o4, Blk ((((w.alloc o1).alloc (.cells cs t)).alloc o3).alloc o4) (w.heap.size + 1) t cs := fun cs t o1 o3 o4 => by
    have := (((Only.refl [] _).alloc o3).alloc o4).blk (Blk.new (w.alloc o1) t cs) (by simp)
    simpa using this
  have kA : ∀ cs t o1 o2 o4, Blk ((((w.alloc o1).alloc o2).alloc (.cells cs t)).alloc o4) (w.heap.size + 1 + 1) t cs := fun cs t o1 o2 o4 => by
    have := ((Only.refl [] _).alloc o4).blk (Blk.new ((w.alloc o1).alloc o2) t cs) (by simp)
    simpa using this
  have kY : ∀ cs t o1 o2 o3, Blk ((((w.alloc o1).alloc o2).alloc o3).alloc (.cells cs t)) (w.heap.size + 1 + 1 + 1) t cs := fun cs t o1 o2 o3 => by
    have := Blk.new (((w.alloc o1).alloc o2).alloc o3) t cs
    simpa using this
  have c0 : w.cell? ⟨sb, 0, none⟩ = some (.slice A2 s.all.length cap2) := by rw [← hav]; exact h.blk.cell 0
  have F0 := fun o1 o2 o3 o4 => Within.cell (S := []) (((h0 o1 o2 o3 o4).cell hsb (by simp)).trans c0) (by simp)
  have X0 := fun v a b d f g t o1 o3 o4 => Within.cell (S := []) ((kX #[v, a, b, d, f, g] t o1 o3 o4).cell 0) (by simp)
  subst hpv hev
  obtain ⟨R, hR⟩ : ∃ R, R = s.act c x := ⟨_, rfl⟩
  rw [← hR]
  have HR := Lib.hid hR
  clear hR c0
  rw [show c.val (.slice A1 c.events.length cap1) = .agg #[.int .i64 c.kind, .int .i64 c.time, .string c.stream, .int .i64 c.expected, .slice A1 c.events.length cap1, .int .i64 c.mt.maxCount, .int .i64 c.mt.maxAge, .int .i64 c.mt.before] from rfl,
    show x.val (.slice A x.places.length cap) = .agg #[.slice A x.places.length cap, .int .i64 x.mt.maxCount, .int .i64 x.mt.maxAge, .int .i64 x.mt.before, .int .i64 x.floor, .bool x.deleted] from rfl]
  have hk1 : ((c.kind : Int) == 2) = false := by rw [beq_eq_false_iff_ne]; omega
  have hk2 : ((c.kind : Int) == 3) = false := by rw [beq_eq_false_iff_ne]; omega
  obtain ⟨hel1, hel8⟩ := hel
  obtain ⟨be, offe, rfl, hbe, hce⟩ := hes 0 (by omega)
  have e0 : w.cell? ⟨be, offe, none⟩ = some (.int .i64 (headId c)) := by
    rw [headId_at (by omega)]
    have q := hce 0 (by omega)
    simp only [Nat.zero_mul, Nat.add_zero] at q
    rw [q]
    rfl
  have HFi := Lib.hid (fun (W : World) (hw : Only [] w W) => show Calls Tryz.prog 61 #[.pointer (some ⟨sb, 0, none⟩), .agg #[.slice A x.places.length cap, .int .i64 x.mt.maxCount, .int .i64 x.mt.maxAge, .int .i64 x.mt.before, .int .i64 x.floor, .bool x.deleted], .int .i64 (headId c)] W fun e w' => e = .returned (.int .i64 (s.first x (headId c))) ∧ Only [] W w' from first_any (x := x) (headId c) (h.only0 hw) hx (hp.1.only0 hw))
  have HWr := Lib.hid (fun (W : World) (hw : Only [] w W) => show Calls Tryz.prog 60 #[.agg #[.slice A x.places.length cap, .int .i64 x.mt.maxCount, .int .i64 x.mt.maxAge, .int .i64 x.mt.before, .int .i64 x.floor, .bool x.deleted]] W fun e w' => e = .returned (.agg #[.int .i64 22, .int .i64 ((x.places.length : Int) - 1), .int .i64 0, .bool false]) ∧ Only [] W w' from wrong_any (x := x) (hp.1.only0 hw) (by omega))
  have HE := Lib.hid (fun W => (expected_any c.expected x.places.length W ⟨by omega, by omega⟩))
  have HK := Lib.hid hk
  clear hk
  have hd0 : 0 < c.events.length := by omega
  obtain ⟨id0, hid0⟩ : ∃ i, i = headId c := ⟨_, rfl⟩
  obtain ⟨f, hf⟩ : ∃ f, f = s.first x (headId c) := ⟨_, rfl⟩
  have HF := Lib.hid hf
  rw [← hf, ← hid0] at HFi
  rw [← hid0] at e0
  clear hf hid0
  have hfv : f = -1 := by rw [HF.out, hv]
  rw [hfv] at HFi
  rw [hexp] at HE
  have HX := Lib.hid hexp
  clear hexp
  go_enter Tryz.func23, Tryz.ntmps23
  go_wp2_with fail
  refine wp_region_in [] [0, 1, 2, 3, 4, 5, 6, 7, 8] [9] [10] (by kernel_rfl) (by kernel_rfl) (by intro c d u a w h; cases d <;> exact h) ?_
  show wpQuiet _ _ _ _ [_, _, _, _, _, _, _, _, _] _
  repeat (go_big_quiet_step (fail))
  refine wpQuiet_nil ?_
  show wpList _ _ _ [_] _ _
  go_wp2_with fail
  refine check_of (S := []) (((Only.refl [] _).alloc _).drew) ?_
  show wpList _ _ _ [_] _ _
  clear F0 X0
  go_wp2_with fail
  have k5 : ∀ o1 o2 o3 o4 o5, Only [] w (((((w.alloc o1).alloc o2).alloc o3).alloc o4).alloc o5).drew := fun o1 o2 o3 o4 o5 => ((h0 o1 o2 o3 o4).alloc o5).drew
  have kH : ∀ cs t o1 o2 o3 o4, Blk (((((w.alloc o1).alloc o2).alloc o3).alloc o4).alloc (.cells cs t)).drew (w.heap.size + 1 + 1 + 1 + 1) t cs := fun cs t o1 o2 o3 o4 => by
    have := (Only.refl [] _).drew.blk (Blk.new ((((w.alloc o1).alloc o2).alloc o3).alloc o4) t cs) (by simp <;> omega)
    simpa using this
  have kX : ∀ cs t o1 o3 o4 o5, Blk (((((w.alloc o1).alloc (.cells cs t)).alloc o3).alloc o4).alloc o5).drew (w.heap.size + 1) t cs := fun cs t o1 o3 o4 o5 => ((Only.refl [] _).alloc o5).drew.blk (kX cs t o1 o3 o4) (by simp <;> omega)
  have kA : ∀ cs t o1 o2 o4 o5, Blk (((((w.alloc o1).alloc o2).alloc (.cells cs t)).alloc o4).alloc o5).drew (w.heap.size + 1 + 1) t cs := fun cs t o1 o2 o4 o5 => ((Only.refl [] _).alloc o5).drew.blk (kA cs t o1 o2 o4) (by simp <;> omega)
  have kY : ∀ cs t o1 o2 o3 o5, Blk (((((w.alloc o1).alloc o2).alloc o3).alloc (.cells cs t)).alloc o5).drew (w.heap.size + 1 + 1 + 1) t cs := fun cs t o1 o2 o3 o5 => ((Only.refl [] _).alloc o5).drew.blk (kY cs t o1 o2 o3) (by simp <;> omega)
  have kS : ∀ o1 o2 o3 o4 o5, StAt (((((w.alloc o1).alloc o2).alloc o3).alloc o4).alloc o5).drew M sb mb av pf s := fun o1 o2 o3 o4 o5 => h.only0 (k5 o1 o2 o3 o4 o5)
  have kC : ∀ cs t o2 o3 o4 o5, Blk (((((w.alloc (.cells cs t)).alloc o2).alloc o3).alloc o4).alloc o5).drew w.heap.size t cs := fun cs t o2 o3 o4 o5 => ((Only.refl [] _).alloc o5).drew.blk (kC cs t o2 o3 o4) (by simp)
  go_wp2_with fail
  have X0 := fun v a b d f g o1 o3 o4 o5 => Within.cell (S := []) ((kX #[v, a, b, d, f, g] 75 o1 o3 o4 o5).cell 0) (by simp)
  have X1 := fun v a b d f g o1 o3 o4 o5 => Within.cell (S := []) ((kX #[v, a, b, d, f, g] 75 o1 o3 o4 o5).cell 1) (by simp)
  have X2 := fun v a b d f g o1 o3 o4 o5 => Within.cell (S := []) ((kX #[v, a, b, d, f, g] 75 o1 o3 o4 o5).cell 2) (by simp)
  have X3 := fun v a b d f g o1 o3 o4 o5 => Within.cell (S := []) ((kX #[v, a, b, d, f, g] 75 o1 o3 o4 o5).cell 3) (by simp)
  have X4 := fun v a b d f g o1 o3 o4 o5 => Within.cell (S := []) ((kX #[v, a, b, d, f, g] 75 o1 o3 o4 o5).cell 4) (by simp)
  have X5 := fun v a b d f g o1 o3 o4 o5 => Within.cell (S := []) ((kX #[v, a, b, d, f, g] 75 o1 o3 o4 o5).cell 5) (by simp)
  have C4 := fun a b d e f g i j k o2 o3 o4 o5 => Within.cell (S := []) ((kC #[a, b, d, e, f, g, i, j, k] 40 o2 o3 o4 o5).cell 4) (by simp)
  have C4' := fun a b d e f g i j o2 o3 o4 o5 => Within.cell (S := []) ((kC #[a, b, d, e, f, g, i, j] 40 o2 o3 o4 o5).cell 4) (by simp)
  have E0 := fun o1 o2 o3 o4 o5 => Within.cell (S := []) (((k5 o1 o2 o3 o4 o5).cell hbe (by simp)).trans e0) (by simp)
  refine wp_region_in [] [0, 1, 2, 3, 4, 5, 6] [] [7, 8] (by kernel_rfl) (by kernel_rfl) (by intro c d u a w h; cases d <;> exact h) ?_
  show wpQuiet _ _ _ _ [_, _, _, _, _, _, _] _
  repeat (go_big_quiet_step (fail))
  refine wpQuiet_nil ?_
  show wpList _ _ _ [_, _] _ _
  clear X0 X1 X2 X3 X4 X5 C4 C4' E0
  go_wp2_with (first
    | (go_at_call 61; refine (HFi.out _ (k5 _ _ _ _ _).drew).mono ?_; rintro e w1 ⟨rfl, ho1⟩; have rC := fun i => (ho1.blk ((Only.refl [] _).drew.blk (kC _ _ _ _ _ _) (by simp)) (by simp)).cell i; have rX := fun i => (ho1.blk ((Only.refl [] _).drew.blk (kX _ _ _ _ _ _) (by simp)) (by simp)).cell i)
    | (go_at_call 59; refine (HE.out _).mono ?_; rintro e w2 ⟨rfl, hWE⟩; subst hWE))
  have hO1 : Only [] w w1 := (k5 _ _ _ _ _).drew.trans ho1
  have lC := ho1.blk ((Only.refl [] _).drew.blk (kC _ _ _ _ _ _) (by simp)) (by simp)
  have lX := ho1.blk ((Only.refl [] _).drew.blk (kX _ _ _ _ _ _) (by simp)) (by simp)
  have lA := ho1.blk ((Only.refl [] _).drew.blk (kA _ _ _ _ _ _) (by simp)) (by simp)
  have lY := ho1.blk ((Only.refl [] _).drew.blk (kY _ _ _ _ _ _) (by simp)) (by simp)
  have C0 := Within.cell (S := [w.heap.size + 1 + 1]) (lC.cell 0) (by simp <;> omega)
  have C1 := Within.cell (S := [w.heap.size + 1 + 1]) (lC.cell 1) (by simp <;> omega)
  have C2 := Within.cell (S := [w.heap.size + 1 + 1]) (lC.cell 2) (by simp <;> omega)
  have C3 := Within.cell (S := [w.heap.size + 1 + 1]) (lC.cell 3) (by simp <;> omega)
  have C4 := Within.cell (S := [w.heap.size + 1 + 1]) (lC.cell 4) (by simp <;> omega)
  have C5 := Within.cell (S := [w.heap.size + 1 + 1]) (lC.cell 5) (by simp <;> omega)
  have C6 := Within.cell (S := [w.heap.size + 1 + 1]) (lC.cell 6) (by simp <;> omega)
  have C7 := Within.cell (S := [w.heap.size + 1 + 1]) (lC.cell 7) (by simp <;> omega)
  have X0 := Within.cell (S := [w.heap.size + 1 + 1]) (lX.cell 0) (by simp <;> omega)
  have X1 := Within.cell (S := [w.heap.size + 1 + 1]) (lX.cell 1) (by simp <;> omega)
  have X2 := Within.cell (S := [w.heap.size + 1 + 1]) (lX.cell 2) (by simp <;> omega)
  have X3 := Within.cell (S := [w.heap.size + 1 + 1]) (lX.cell 3) (by simp <;> omega)
  have X4 := Within.cell (S := [w.heap.size + 1 + 1]) (lX.cell 4) (by simp <;> omega)
  have X5 := Within.cell (S := [w.heap.size + 1 + 1]) (lX.cell 5) (by simp <;> omega)
  clear rC rX
  refine wp_region_in [w.heap.size + 1 + 1] [0, 2] [1, 3] [4] (by kernel_rfl) (by kernel_rfl) (by intro c d u a w h; cases d <;> exact h) ?_
  show wpQuiet _ _ _ _ [_, _] _
  repeat (go_big_quiet_step (fail))
  refine wpQuiet_nil ?_
  show wpList _ _ _ [_] _ _
  go_wp2_with (go_at_call 60; refine (HWr.out _ hO1.drew).mono ?_; rintro e w2 ⟨rfl, ho2⟩)
  refine check_of (S := [w.heap.size + 1 + 1]) (((Only.refl [] _).drew.trans ho2).of_nil) ?_
  show wpList _ _ _ [_] _ _
  have ho2' := (Only.refl [] w1).drew.trans ho2
  have hA1 := fun i => (ho2'.blk lA (by simp)).cell i
  have hA1f := fun i => (ho2'.blk lA (by simp)).free i
  have hY1 := fun i => (ho2'.blk lY (by simp)).cell i
  have hY1f := fun i => (ho2'.blk lY (by simp)).free i
  go_wp2_with fail
  refine check_of (S := [w.heap.size + 1 + 1]) (by repeat (first | exact ((Only.refl [] _).drew.trans ho2).of_nil | refine Only.drew ?_ | refine Only.setCell ?_ (.inl (by simp)) _)) ?_
  show wpList _ _ _ [_] _ _
  go_wp2
  have hR := HR.out
  subst hR
  clear HR C0 C1 C2 C3 C4 C5 C6 C7 X0 X1 X2 X3 X4 X5
  refine bodyPost_ret (v := .tuple #[.agg #[.int .i64 22, .int .i64 ((x.places.length : Int) - 1), .int .i64 0, .bool false], .agg #[.slice A x.places.length cap, .int .i64 x.mt.maxCount, .int .i64 x.mt.maxAge, .int .i64 x.mt.before, .int .i64 x.floor, .bool x.deleted]]) (by simp [results, Tryz.results23, go_sem, hA1, hY1]) rfl ⟨.slice A x.places.length cap, ?_⟩
  have hE : s.act c x = (wrong x, x, s) := by
    have h1 := HK.out
    unfold MS.act
    rw [if_neg h1.1, if_neg h1.2]
    show (if 0 ≤ s.first x (headId c) then (s.again c x (s.first x (headId c)), x, s) else _) = _
    rw [hv, if_neg (by omega), HX.out, if_neg (by decide)]
  rw [hE]
  refine ⟨rfl, ActLeads.same h hp ?hw⟩
  case hw =>
    iterate 10 (refine Only.setCell ?_ (.inr (by simp <;> omega)) _)
    exact hO1.drew.trans ho2
theorem ActLeads.of_app {w w1 w2 w3 : World} {M S : List Nat} {sb mb : Nat} {av avr pv' : Value} {pf : ByteArray → Value} {s s' : MS} {y : StreamR} (h : StAt w M sb mb av pf s) (hO1 : Only [] w w1) (hst : StAt w2 (avr.ownBlock.toList ++ M) sb mb avr pf s')
    (hrd : Rd (avr.ownBlock.toList ++ M) w2 1 pv' y.places.length (ints y.places)) (ho2 : Only (hM sb mb av) w1 w2) (hav : ∀ g, avr.ownBlock = some g → av.ownBlock = some g ∨ w1.heap.size ≤ g) (hpv : ∀ g, pv'.ownBlock = some g → w1.heap.size ≤ g)
    (hO3 : Only S w2 w3) (hS : ∀ g ∈ S, w.heap.size ≤ g ∧ g < w1.heap.size) (hm : s'.m = s.m) : ActLeads w M sb mb av pf y s' pv' w3 := by
  have hw3 : Only (hM sb mb av) w w3 := (hO1.of_nil.trans ho2).step hO3 (fun i hi => .inr (hS i hi).1)
  have hnS : ∀ g, g < w.heap.size → g ∉ S := fun g hg q => by have := (hS g q).1; omega
  have hnS' : ∀ g, w1.heap.size ≤ g → g ∉ S := fun g hg q => by have := (hS g q).2; omega
  have hs1 := hO1.size
  have hnew : ∀ g ∈ avr.ownBlock.toList ++ M, g ∈ M ∨ w.heap.size ≤ g := fun g hg => by
    rcases List.mem_append.1 hg with q | q
    · rcases hav g (by simpa using q) with r | r
      · exact .inl (h.inM.2.2 g r)
      · exact .inr (by omega)
    · exact .inl q
  refine ⟨avr.ownBlock.toList ++ M, avr, ⟨hO3.blk hst.blk (hnS _ h.blk.lt), own_only hst.own hO3 fun g hg => ?_, hst.map.only hO3 (hnS _ h.map.lt), fun n x hx => ?_, hst.inM, fun g hg => Nat.lt_of_lt_of_le (hst.mlt g hg) hO3.size⟩, ⟨hrd.1.only hO3 fun g hg => hnS' g (hpv g hg), fun g hg => (hrd.2 g hg).imp (fun q => ⟨q.1, Nat.lt_of_lt_of_le q.2 hO3.size⟩) id⟩, hw3, fun g hg => List.mem_append_right _ hg, hnew, fun g hg => (hav g hg).imp id (fun q => by omega)⟩
  · rcases hav g hg with q | q
    · exact hnS g (h.own_lt g q)
    · exact hnS' g q
  · rw [hm] at hx
    exact ((h.pl n x hx).ext hnew).only hw3 (fun g hg => List.mem_append_right _ (h.hMM g hg))
theorem append_lit {q : Ans × StreamR × MS} {w : World} {M : List Nat} {sb mb : Nat} {av pv ev : Value} {pf : ByteArray → Value} {s : MS} {x : StreamR} {c : Cmd} (hq : q = s.append c x) (h : StAt w M sb mb av pf s) (hx : XOk s x) (hp : Rd M w 1 pv x.places.length (ints x.places))
    (he : Rd M w 4 ev c.events.length (c.events.flatMap EventR.cells)) (hl : s.all.length ≤ 1000000) (hel : 1 ≤ c.events.length ∧ c.events.length ≤ 8) (hn : 0 ≤ s.now ∧ s.now ≤ 1099511627776) :
    Calls Tryz.prog 63 #[.pointer (some ⟨sb, 0, none⟩), c.val ev, x.val pv] w fun e w' => ∃ Aq capq avr, e = .returned (.tuple #[.agg #[.int .i64 q.1.err, .int .i64 q.1.version, .int .i64 q.1.position, .bool q.1.again], .agg #[.slice Aq q.2.1.places.length capq, .int .i64 q.2.1.mt.maxCount, .int .i64 q.2.1.mt.maxAge, .int .i64 q.2.1.mt.before, .int .i64 q.2.1.floor, .bool q.2.1.deleted]]) ∧
      StAt w' (avr.ownBlock.toList ++ M) sb mb avr pf q.2.2 ∧ Rd (avr.ownBlock.toList ++ M) w' 1 (.slice Aq q.2.1.places.length capq) q.2.1.places.length (ints q.2.1.places) ∧ Only (hM sb mb av) w w' ∧ (∀ g, avr.ownBlock = some g → av.ownBlock = some g ∨ w.heap.size ≤ g) ∧ (∀ g, (Value.slice Aq q.2.1.places.length capq).ownBlock = some g → w.heap.size ≤ g) := by
  subst hq
  refine (append_any h hx hp he hl hel hn).mono ?_
  rintro e w' ⟨pv', avr, rfl, h1, h2, h3, h4, h5⟩
  obtain ⟨A, cap, rfl, _⟩ := h2.1.openI
  exact ⟨A, cap, avr, rfl, h1, h2, h3, h4, h5⟩
set_option maxRecDepth 100000 in
set_option maxHeartbeats 4000000 in
theorem act_append {w : World} {M : List Nat} {sb mb : Nat} {av pv ev : Value} {pf : ByteArray → Value} {s : MS} {x : StreamR} {c : Cmd} (h : StAt w M sb mb av pf s) (hx : XOk s x) (hp : Rd M w 1 pv x.places.length (ints x.places))
    (he : Rd M w 4 ev c.events.length (c.events.flatMap EventR.cells)) (hl : s.all.length ≤ 1000000) (hk : c.kind ≠ 2 ∧ c.kind ≠ 3) (hel : 1 ≤ c.events.length ∧ c.events.length ≤ 8) (hn : 0 ≤ s.now ∧ s.now ≤ 1099511627776) (hv : s.first x (headId c) = -1) (hexp : expected c.expected x.places.length = true) :
    Calls Tryz.prog 23 #[.pointer (some ⟨sb, 0, none⟩), c.val ev, x.val pv] w fun e w' => ∃ pv', e = .returned (.tuple #[(s.act c x).1.val, (s.act c x).2.1.val pv']) ∧ ActLeads w M sb mb av pf (s.act c x).2.1 (s.act c x).2.2 pv' w' := by
  obtain ⟨A, cap, hpv, hn1, hn2, hps⟩ := hp.1.openI
  obtain ⟨A1, cap1, hev, hn3, hn4, hes⟩ := he.1.openE EventR.cells (fun _ => rfl)
  obtain ⟨A2, cap2, hav, hnc2, hcm2, hel2⟩ := h.cell
  unfold maxLen at hn2 hn4 hcm2
  have hfew := hx.few
  have hsb := h.blk.lt
  have h0 : ∀ o1 o2 o3 o4, Only [] w ((((w.alloc o1).alloc o2).alloc o3).alloc o4) := fun o1 o2 o3 o4 => ((((Only.refl [] w).alloc _).alloc _).alloc _).alloc _
  have kC : ∀ cs t o2 o3 o4, Blk ((((w.alloc (.cells cs t)).alloc o2).alloc o3).alloc o4) w.heap.size t cs := fun cs t o2 o3 o4 => ((((Only.refl [] _).alloc o2).alloc o3).alloc o4).blk (Blk.new w t cs) (by simp)
  have kX : ∀ cs t o1 o3 o4, Blk ((((w.alloc o1).alloc (.cells cs t)).alloc o3).alloc o4) (w.heap.size + 1) t cs := fun cs t o1 o3 o4 => by
    have := (((Only.refl [] _).alloc o3).alloc o4).blk (Blk.new (w.alloc o1) t cs) (by simp)
    simpa using this
  have kA : ∀ cs t o1 o2 o4, Blk ((((w.alloc o1).alloc o2).alloc (.cells cs t)).alloc o4) (w.heap.size + 1 + 1) t cs := fun cs t o1 o2 o4 => by
    have := ((Only.refl [] _).alloc o4).blk (Blk.new ((w.alloc o1).alloc o2) t cs) (by simp)
    simpa using this
  have kY : ∀ cs t o1 o2 o3, Blk ((((w.alloc o1).alloc o2).alloc o3).alloc (.cells cs t)) (w.heap.size + 1 + 1 + 1) t cs := fun cs t o1 o2 o3 => by
    have := Blk.new (((w.alloc o1).alloc o2).alloc o3) t cs
    simpa using this
  have c0 : w.cell? ⟨sb, 0, none⟩ = some (.slice A2 s.all.length cap2) := by rw [← hav]; exact h.blk.cell 0
  have F0 := fun o1 o2 o3 o4 => Within.cell (S := []) (((h0 o1 o2 o3 o4).cell hsb (by simp)).trans c0) (by simp)
  have X0 := fun v a b d f g t o1 o3 o4 => Within.cell (S := []) ((kX #[v, a, b, d, f, g] t o1 o3 o4).cell 0) (by simp)
  subst hpv hev
  obtain ⟨R, hR⟩ : ∃ R, R = s.act c x := ⟨_, rfl⟩
  rw [← hR]
  have HR := Lib.hid hR
  clear hR c0
  rw [show c.val (.slice A1 c.events.length cap1) = .agg #[.int .i64 c.kind, .int .i64 c.time, .string c.stream, .int .i64 c.expected, .slice A1 c.events.length cap1, .int .i64 c.mt.maxCount, .int .i64 c.mt.maxAge, .int .i64 c.mt.before] from rfl,
    show x.val (.slice A x.places.length cap) = .agg #[.slice A x.places.length cap, .int .i64 x.mt.maxCount, .int .i64 x.mt.maxAge, .int .i64 x.mt.before, .int .i64 x.floor, .bool x.deleted] from rfl]
  have hk1 : ((c.kind : Int) == 2) = false := by rw [beq_eq_false_iff_ne]; omega
  have hk2 : ((c.kind : Int) == 3) = false := by rw [beq_eq_false_iff_ne]; omega
  obtain ⟨hel1, hel8⟩ := hel
  obtain ⟨be, offe, rfl, hbe, hce⟩ := hes 0 (by omega)
  have e0 : w.cell? ⟨be, offe, none⟩ = some (.int .i64 (headId c)) := by
    rw [headId_at (by omega)]
    have q := hce 0 (by omega)
    simp only [Nat.zero_mul, Nat.add_zero] at q
    rw [q]
    rfl
  have HFi := Lib.hid (fun (W : World) (hw : Only [] w W) => show Calls Tryz.prog 61 #[.pointer (some ⟨sb, 0, none⟩), .agg #[.slice A x.places.length cap, .int .i64 x.mt.maxCount, .int .i64 x.mt.maxAge, .int .i64 x.mt.before, .int .i64 x.floor, .bool x.deleted], .int .i64 (headId c)] W fun e w' => e = .returned (.int .i64 (s.first x (headId c))) ∧ Only [] W w' from first_any (x := x) (headId c) (h.only0 hw) hx (hp.1.only0 hw))
  have HWr := Lib.hid (fun (W : World) (hw : Only [] w W) => show Calls Tryz.prog 60 #[.agg #[.slice A x.places.length cap, .int .i64 x.mt.maxCount, .int .i64 x.mt.maxAge, .int .i64 x.mt.before, .int .i64 x.floor, .bool x.deleted]] W fun e w' => e = .returned (.agg #[.int .i64 22, .int .i64 ((x.places.length : Int) - 1), .int .i64 0, .bool false]) ∧ Only [] W w' from wrong_any (x := x) (hp.1.only0 hw) (by omega))
  have HE := Lib.hid (fun W => (expected_any c.expected x.places.length W ⟨by omega, by omega⟩))
  have HK := Lib.hid hk
  clear hk
  have hd0 : 0 < c.events.length := by omega
  obtain ⟨id0, hid0⟩ : ∃ i, i = headId c := ⟨_, rfl⟩
  obtain ⟨f, hf⟩ : ∃ f, f = s.first x (headId c) := ⟨_, rfl⟩
  have HF := Lib.hid hf
  rw [← hf, ← hid0] at HFi
  rw [← hid0] at e0
  clear hf hid0
  have hfv : f = -1 := by rw [HF.out, hv]
  rw [hfv] at HFi
  rw [hexp] at HE
  have HX := Lib.hid hexp
  clear hexp
  obtain ⟨q, hq⟩ : ∃ q, q = s.append c x := ⟨_, rfl⟩
  have HAp := Lib.hid (fun (W : World) (hw : Only [] w W) => (append_lit hq (x := x) (c := c) (ev := .slice (some ⟨be, offe, none⟩) c.events.length cap1) (pv := .slice A x.places.length cap) (h.only0 hw) hx (hp.only0 hw) (he.only0 hw) (by omega) ⟨hel1, hel8⟩ hn : Calls Tryz.prog 63 #[.pointer (some ⟨sb, 0, none⟩), .agg #[.int .i64 c.kind, .int .i64 c.time, .string c.stream, .int .i64 c.expected, .slice (some ⟨be, offe, none⟩) c.events.length cap1, .int .i64 c.mt.maxCount, .int .i64 c.mt.maxAge, .int .i64 c.mt.before], .agg #[.slice A x.places.length cap, .int .i64 x.mt.maxCount, .int .i64 x.mt.maxAge, .int .i64 x.mt.before, .int .i64 x.floor, .bool x.deleted]] W _))
  have hML : ∀ g ∈ hM sb mb av, g < w.heap.size := h.lt
  have hMn : ∀ g, w.heap.size ≤ g → g ∉ hM sb mb av := fun g hg q => by have := hML g q; omega
  have HQ := Lib.hid hq
  clear hq
  go_enter Tryz.func23, Tryz.ntmps23
  go_wp2_with fail
  refine wp_region_in [] [0, 1, 2, 3, 4, 5, 6, 7, 8] [9] [10] (by kernel_rfl) (by kernel_rfl) (by intro c d u a w h; cases d <;> exact h) ?_
  show wpQuiet _ _ _ _ [_, _, _, _, _, _, _, _, _] _
  repeat (go_big_quiet_step (fail))
  refine wpQuiet_nil ?_
  show wpList _ _ _ [_] _ _
  go_wp2_with fail
  refine check_of (S := []) (((Only.refl [] _).alloc _).drew) ?_
  show wpList _ _ _ [_] _ _
  clear F0 X0
  go_wp2_with fail
  have k5 : ∀ o1 o2 o3 o4 o5, Only [] w (((((w.alloc o1).alloc o2).alloc o3).alloc o4).alloc o5).drew := fun o1 o2 o3 o4 o5 => ((h0 o1 o2 o3 o4).alloc o5).drew
  have kH : ∀ cs t o1 o2 o3 o4, Blk (((((w.alloc o1).alloc o2).alloc o3).alloc o4).alloc (.cells cs t)).drew (w.heap.size + 1 + 1 + 1 + 1) t cs := fun cs t o1 o2 o3 o4 => by
    have := (Only.refl [] _).drew.blk (Blk.new ((((w.alloc o1).alloc o2).alloc o3).alloc o4) t cs) (by simp <;> omega)
    simpa using this
  have kX : ∀ cs t o1 o3 o4 o5, Blk (((((w.alloc o1).alloc (.cells cs t)).alloc o3).alloc o4).alloc o5).drew (w.heap.size + 1) t cs := fun cs t o1 o3 o4 o5 => ((Only.refl [] _).alloc o5).drew.blk (kX cs t o1 o3 o4) (by simp <;> omega)
  have kA : ∀ cs t o1 o2 o4 o5, Blk (((((w.alloc o1).alloc o2).alloc (.cells cs t)).alloc o4).alloc o5).drew (w.heap.size + 1 + 1) t cs := fun cs t o1 o2 o4 o5 => ((Only.refl [] _).alloc o5).drew.blk (kA cs t o1 o2 o4) (by simp <;> omega)
  have kY : ∀ cs t o1 o2 o3 o5, Blk (((((w.alloc o1).alloc o2).alloc o3).alloc (.cells cs t)).alloc o5).drew (w.heap.size + 1 + 1 + 1) t cs := fun cs t o1 o2 o3 o5 => ((Only.refl [] _).alloc o5).drew.blk (kY cs t o1 o2 o3) (by simp <;> omega)
  have kS : ∀ o1 o2 o3 o4 o5, StAt (((((w.alloc o1).alloc o2).alloc o3).alloc o4).alloc o5).drew M sb mb av pf s := fun o1 o2 o3 o4 o5 => h.only0 (k5 o1 o2 o3 o4 o5)
  have kC : ∀ cs t o2 o3 o4 o5, Blk (((((w.alloc (.cells cs t)).alloc o2).alloc o3).alloc o4).alloc o5).drew w.heap.size t cs := fun cs t o2 o3 o4 o5 => ((Only.refl [] _).alloc o5).drew.blk (kC cs t o2 o3 o4) (by simp)
  go_wp2_with fail
  have X0 := fun v a b d f g o1 o3 o4 o5 => Within.cell (S := []) ((kX #[v, a, b, d, f, g] 75 o1 o3 o4 o5).cell 0) (by simp)
  have X1 := fun v a b d f g o1 o3 o4 o5 => Within.cell (S := []) ((kX #[v, a, b, d, f, g] 75 o1 o3 o4 o5).cell 1) (by simp)
  have X2 := fun v a b d f g o1 o3 o4 o5 => Within.cell (S := []) ((kX #[v, a, b, d, f, g] 75 o1 o3 o4 o5).cell 2) (by simp)
  have X3 := fun v a b d f g o1 o3 o4 o5 => Within.cell (S := []) ((kX #[v, a, b, d, f, g] 75 o1 o3 o4 o5).cell 3) (by simp)
  have X4 := fun v a b d f g o1 o3 o4 o5 => Within.cell (S := []) ((kX #[v, a, b, d, f, g] 75 o1 o3 o4 o5).cell 4) (by simp)
  have X5 := fun v a b d f g o1 o3 o4 o5 => Within.cell (S := []) ((kX #[v, a, b, d, f, g] 75 o1 o3 o4 o5).cell 5) (by simp)
  have C4 := fun a b d e f g i j k o2 o3 o4 o5 => Within.cell (S := []) ((kC #[a, b, d, e, f, g, i, j, k] 40 o2 o3 o4 o5).cell 4) (by simp)
  have C4' := fun a b d e f g i j o2 o3 o4 o5 => Within.cell (S := []) ((kC #[a, b, d, e, f, g, i, j] 40 o2 o3 o4 o5).cell 4) (by simp)
  have E0 := fun o1 o2 o3 o4 o5 => Within.cell (S := []) (((k5 o1 o2 o3 o4 o5).cell hbe (by simp)).trans e0) (by simp)
  refine wp_region_in [] [0, 1, 2, 3, 4, 5, 6] [] [7, 8] (by kernel_rfl) (by kernel_rfl) (by intro c d u a w h; cases d <;> exact h) ?_
  show wpQuiet _ _ _ _ [_, _, _, _, _, _, _] _
  repeat (go_big_quiet_step (fail))
  refine wpQuiet_nil ?_
  show wpList _ _ _ [_, _] _ _
  clear X0 X1 X2 X3 X4 X5 C4 C4' E0
  go_wp2_with (first
    | (go_at_call 61; refine (HFi.out _ (k5 _ _ _ _ _).drew).mono ?_; rintro e w1 ⟨rfl, ho1⟩; have rC := fun i => (ho1.blk ((Only.refl [] _).drew.blk (kC _ _ _ _ _ _) (by simp)) (by simp)).cell i; have rX := fun i => (ho1.blk ((Only.refl [] _).drew.blk (kX _ _ _ _ _ _) (by simp)) (by simp)).cell i)
    | (go_at_call 59; refine (HE.out _).mono ?_; rintro e w2 ⟨rfl, hWE⟩; subst hWE)
    | (go_at_call 63; refine (HAp.out _ ((k5 _ _ _ _ _).drew.trans ho1)).mono ?_; rintro e w2 ⟨Aq, capq, avr, rfl, hst, hrd, ho2, hav, hpq⟩; have bA1 := ho2.blk (ho1.blk ((Only.refl [] _).drew.blk (kA _ _ _ _ _ _) (by simp)) (by simp)) (hMn _ (by omega)); have bY1 := ho2.blk (ho1.blk ((Only.refl [] _).drew.blk (kY _ _ _ _ _ _) (by simp)) (by simp)) (hMn _ (by omega)); have hA1 := fun i => bA1.cell i; have hA1f := fun i => bA1.free i; have hY1 := fun i => bY1.cell i; have hY1f := fun i => bY1.free i))
  have hR := HR.out
  subst hR
  clear HR
  refine bodyPost_ret (v := .tuple #[.agg #[.int .i64 q.1.err, .int .i64 q.1.version, .int .i64 q.1.position, .bool q.1.again], .agg #[.slice Aq q.2.1.places.length capq, .int .i64 q.2.1.mt.maxCount, .int .i64 q.2.1.mt.maxAge, .int .i64 q.2.1.mt.before, .int .i64 q.2.1.floor, .bool q.2.1.deleted]]) (by simp [results, Tryz.results23, go_sem, hA1, hY1]) rfl ⟨.slice Aq q.2.1.places.length capq, ?_⟩
  have hE : s.act c x = q := by
    have h1 := HK.out
    unfold MS.act
    rw [if_neg h1.1, if_neg h1.2]
    show (if 0 ≤ s.first x (headId c) then (s.again c x (s.first x (headId c)), x, s) else _) = _
    rw [hv, if_neg (by omega), HX.out, if_pos rfl, HQ.out]
  have hqm : q.2.2.m = s.m := by rw [HQ.out]; rfl
  rw [hE]
  refine ⟨rfl, ActLeads.of_app (S := [w.heap.size + 1 + 1, w.heap.size + 1 + 1 + 1]) h ((k5 _ _ _ _ _).drew.trans ho1) hst hrd ho2 hav hpq ?hw (fun g hg => ?hs) hqm⟩
  case hs =>
    have := ho1.size
    simp at this hg
    omega
  case hw =>
    iterate 10 (refine Only.setCell ?_ (.inl (by simp)) _)
    exact Only.refl _ _
theorem act_any {w : World} {M : List Nat} {sb mb : Nat} {av pv ev : Value} {pf : ByteArray → Value} {s : MS} {x : StreamR} {c : Cmd} (h : StAt w M sb mb av pf s) (hx : XOk s x) (hp : Rd M w 1 pv x.places.length (ints x.places))
    (he : Rd M w 4 ev c.events.length (c.events.flatMap EventR.cells)) (hl : s.all.length ≤ 1000000) (hn : 0 ≤ s.now ∧ s.now ≤ 1099511627776) (hel : c.kind ≠ 2 ∧ c.kind ≠ 3 → 1 ≤ c.events.length ∧ c.events.length ≤ 8) :
    Calls Tryz.prog 23 #[.pointer (some ⟨sb, 0, none⟩), c.val ev, x.val pv] w fun e w' => ∃ pv', e = .returned (.tuple #[(s.act c x).1.val, (s.act c x).2.1.val pv']) ∧ ActLeads w M sb mb av pf (s.act c x).2.1 (s.act c x).2.2 pv' w' := by
  by_cases h2 : c.kind = 2
  · exact act_meta h hx hp he hl h2
  · by_cases h3 : c.kind = 3
    · cases hq : expected c.expected x.places.length
      · exact act_delNo h hx hp he hl h3 hq
      · exact act_delYes h hx hp he hl h3 hq
    · have hk : c.kind ≠ 2 ∧ c.kind ≠ 3 := ⟨h2, h3⟩
      rcases first_cases s x (headId c) with hf | ⟨v, hv, hvl⟩
      · cases hq : expected c.expected x.places.length
        · exact act_late h hx hp he hl hk (hel hk) hf hq
        · exact act_append h hx hp he hl hk (hel hk) hn hf hq
      · exact act_again h hx hp he hl hk (hel hk) hv hvl
end
section
open Go.RowKit
/-- Within, with one thing more that stays. -/
structure WithinE (S : List Nat) (E : World → Prop) (w : World) where
  W : World
  h : Only S w W
  e : E W
section
variable {P : Program} {Q : Exit → Act → World → Prop} {l : List Oper} {S : List Nat} {E : World → Prop}
theorem wp_region_inE {id : Nat} {a : Act} {w : World} (S H T1 T2 : List Nat) (E : World → Prop) (hE : E w.drew) (hm : P.follows .mixedOrders = true) (hB : planB .any l.toArray H T1 T2 = true) (hQ : ∀ c d u a w, Q (.panic c) (Act.put a d u) w → Q (.panic c) a w)
    (h : Nonempty (WithinE S E w) → wpQuiet P l.toArray (fun W => ∃ p : WithinE S E w, W = p.W) (fun a' => wpT1 P l.toArray (fun W => ∃ p : WithinE S E w, W = p.W) Q (opsAt l T1) (fun a w => wpList P l.toArray Q (opsAt l T2) a w) a' w.drew) (opsAt l H) a) : (Code.region id l.toArray true).wp P Q a w :=
  wp_region_plan H T1 T2 hm hB hQ ⟨⟨_, (Only.refl S w).drew, hE⟩, rfl⟩ (h ⟨⟨_, (Only.refl S w).drew, hE⟩⟩)
theorem WithinE.cell {w : World} {x : Addr} {v : Value} (hc : w.cell? x = some v) (hn : x.block ∉ S) (p : WithinE S E w) : p.W.cell? x = some v := (p.h.cell (block_lt_of_cell hc) hn).trans hc
theorem check_ofE {w w' : World} {K : Act → World → Prop} {a : Act} (hO : Only S w w') (hE : E w') (h : K a w') : CheckQ (fun W => ∃ p : WithinE S E w, W = p.W) Q K .normal a w' := ⟨⟨⟨w', hO, hE⟩, rfl⟩, h⟩
end
theorem StLeads.same {w w' : World} {M : List Nat} {sb mb : Nat} {av : Value} {pf : ByteArray → Value} {s : MS} (h : StAt w M sb mb av pf s) (k : Only [] w w') : StLeads w M sb mb av s w' :=
  ⟨M, av, pf, h.only0 k, k.of_nil, fun _ q => q, fun _ q => .inl q, fun _ q => .inl q⟩
theorem StAt.ticked {w W : World} {M : List Nat} {sb mb : Nat} {av : Value} {pf : ByteArray → Value} {s : MS} {t n : Int} (h : StAt w M sb mb av pf s) (hO : Only [sb] w W) (hb : Blk W sb 72 #[av, .map (some mb), .int .i64 n, .int .i64 t]) :
    StAt W M sb mb av pf { s with now := t, done := n } :=
  ⟨hb, own_only h.own hO (fun g hg => by simpa using (h.ownne g hg).1), h.map.only hO (by simpa using h.ne), fun k x hx => (h.pl k x hx).only hO (by simpa using h.inM.1), h.inM, fun g hg => Nat.lt_of_lt_of_le (h.mlt g hg) hO.size⟩
set_option maxHeartbeats 4000000 in
theorem do_bad {w : World} {M : List Nat} {sb mb N : Nat} {av ev : Value} {pf : ByteArray → Value} {s : MS} {c : Cmd} (h : StAt w M sb mb av pf s) (hs : s.Ok N) (hN : N ≤ 100000) (hc : CmdOk c)
    (he : Rd M w 4 ev c.events.length (c.events.flatMap EventR.cells)) (hk : c.check ≠ 0) :
    Calls Tryz.prog 9 #[.pointer (some ⟨sb, 0, none⟩), c.val ev] w fun e w' => e = .returned (s.do c).1.val ∧ StLeads w M sb mb av (s.do c).2 w' := by
  obtain ⟨A1, cap1, hev, hn3, hn4, hes⟩ := he.1.openE EventR.cells (fun _ => rfl)
  obtain ⟨A2, cap2, hav, hnc2, hcm2, hel2⟩ := h.cell
  unfold maxLen at hn4 hcm2
  have hsb := h.blk.lt
  subst hev
  have HCk := Lib.hid (fun (W : World) (hw : Only [] w W) => show Calls Tryz.prog 20 #[.agg #[.int .i64 c.kind, .int .i64 c.time, .string c.stream, .int .i64 c.expected, .slice A1 c.events.length cap1, .int .i64 c.mt.maxCount, .int .i64 c.mt.maxAge, .int .i64 c.mt.before]] W fun e w' => e = .returned (.int .i64 c.check) ∧ Only [] W w' from check_any c _ W (he.1.only0 hw) hc)
  have h2 : ∀ o1 o2, Only [] w ((w.alloc o1).alloc o2) := fun o1 o2 => ((Only.refl [] w).alloc o1).alloc o2
  have kC : ∀ cs t o2, Blk ((w.alloc (.cells cs t)).alloc o2) w.heap.size t cs := fun cs t o2 => ((Only.refl [] _).alloc o2).blk (Blk.new w t cs) (by simp)
  have kA : ∀ cs t o1, Blk ((w.alloc o1).alloc (.cells cs t)) (w.heap.size + 1) t cs := fun cs t o1 => by
    have := Blk.new (w.alloc o1) t cs
    simpa using this
  obtain ⟨R, hR⟩ : ∃ R, R = s.do c := ⟨_, rfl⟩
  rw [← hR]
  have HR := Lib.hid hR
  clear hR
  rw [show c.val (.slice A1 c.events.length cap1) = .agg #[.int .i64 c.kind, .int .i64 c.time, .string c.stream, .int .i64 c.expected, .slice A1 c.events.length cap1, .int .i64 c.mt.maxCount, .int .i64 c.mt.maxAge, .int .i64 c.mt.before] from rfl]
  have hk1 : (c.check != 0) = true := by rw [bne_iff_ne]; exact hk
  have HK := Lib.hid hk
  obtain ⟨ck, hck⟩ : ∃ ck, ck = c.check := ⟨_, rfl⟩
  rw [← hck] at HCk hk1
  have HC := Lib.hid hck
  clear hk hck
  go_enter Tryz.func9, Tryz.ntmps9
  go_wp2_with (go_at_call 20; refine (HCk.out _ (h2 _ _)).mono ?_; rintro e w1 ⟨rfl, ho1⟩; have hA1 := fun i => (ho1.blk (kA _ _ _) (by simp)).cell i; have hA1f := fun i => (ho1.blk (kA _ _ _) (by simp)).free i)
  have hR := HR.out
  subst hR
  have hE : s.do c = (⟨ck, 0, 0, false⟩, s) := by
    unfold MS.do
    rw [HC.out, if_pos HK.out]
  refine bodyPost_ret (v := .agg #[.int .i64 ck, .int .i64 0, .int .i64 0, .bool false]) (by simp [results, Tryz.results9, go_sem, hA1]) rfl ?_
  rw [hE]
  refine ⟨rfl, StLeads.same h ?hw⟩
  case hw =>
    iterate 4 (refine Only.setCell ?_ (.inr (by simp <;> omega)) _)
    exact (h2 _ _).trans ho1
set_option maxRecDepth 100000 in
set_option maxHeartbeats 4000000 in
theorem do_mark {w : World} {M : List Nat} {sb mb N : Nat} {av ev : Value} {pf : ByteArray → Value} {s : MS} {c : Cmd} (h : StAt w M sb mb av pf s) (hs : s.Ok N) (hN : N ≤ 100000) (hc : CmdOk c)
    (he : Rd M w 4 ev c.events.length (c.events.flatMap EventR.cells)) (hk : c.check = 0) (hm : c.kind = 4 ∨ c.kind = 5) :
    Calls Tryz.prog 9 #[.pointer (some ⟨sb, 0, none⟩), c.val ev] w fun e w' => e = .returned (s.do c).1.val ∧ StLeads w M sb mb av (s.do c).2 w' := by
  obtain ⟨A1, cap1, hev, hn3, hn4, hes⟩ := he.1.openE EventR.cells (fun _ => rfl)
  obtain ⟨A2, cap2, hav, hnc2, hcm2, hel2⟩ := h.cell
  unfold maxLen at hn4 hcm2
  have hsb := h.blk.lt
  subst hev
  have HCk := Lib.hid (fun (W : World) (hw : Only [] w W) => show Calls Tryz.prog 20 #[.agg #[.int .i64 c.kind, .int .i64 c.time, .string c.stream, .int .i64 c.expected, .slice A1 c.events.length cap1, .int .i64 c.mt.maxCount, .int .i64 c.mt.maxAge, .int .i64 c.mt.before]] W fun e w' => e = .returned (.int .i64 c.check) ∧ Only [] W w' from check_any c _ W (he.1.only0 hw) hc)
  have h2 : ∀ o1 o2, Only [] w ((w.alloc o1).alloc o2) := fun o1 o2 => ((Only.refl [] w).alloc o1).alloc o2
  have kC : ∀ cs t o2, Blk ((w.alloc (.cells cs t)).alloc o2) w.heap.size t cs := fun cs t o2 => ((Only.refl [] _).alloc o2).blk (Blk.new w t cs) (by simp)
  have kA : ∀ cs t o1, Blk ((w.alloc o1).alloc (.cells cs t)) (w.heap.size + 1) t cs := fun cs t o1 => by
    have := Blk.new (w.alloc o1) t cs
    simpa using this
  obtain ⟨R, hR⟩ : ∃ R, R = s.do c := ⟨_, rfl⟩
  rw [← hR]
  have HR := Lib.hid hR
  clear hR
  rw [show c.val (.slice A1 c.events.length cap1) = .agg #[.int .i64 c.kind, .int .i64 c.time, .string c.stream, .int .i64 c.expected, .slice A1 c.events.length cap1, .int .i64 c.mt.maxCount, .int .i64 c.mt.maxAge, .int .i64 c.mt.before] from rfl]
  have HK := Lib.hid hk
  rw [hk] at HCk
  clear hk
  go_enter Tryz.func9, Tryz.ntmps9
  go_wp2_with (go_at_call 20; refine (HCk.out _ (h2 _ _)).mono ?_; rintro e w1 ⟨rfl, ho1⟩)
  have hdn := IntWalk.i64_in (s.done + 1) ⟨by have := hs.done; omega, by have := hs.done; omega⟩
  have hne0 : w.heap.size ≠ sb := by omega
  obtain ⟨t, ht⟩ : ∃ t, t = max s.now c.time := ⟨_, rfl⟩
  have hmx : (if s.now < c.time then c.time else s.now) = t := by rw [ht]; split <;> omega
  have hmy : (if c.time > s.now then c.time else s.now) = t := hmx
  have HT := Lib.hid ht
  clear ht
  have bC1 := ho1.blk (kC _ _ _) (by simp)
  have bA1 := ho1.blk (kA _ _ _) (by simp)
  have hO1 : Only [] w w1 := (h2 _ _).trans ho1
  have bS1 := hO1.blk h.blk (by simp)
  have C1 := WithinE.cell (E := fun W => W.cell? ⟨sb, 2, none⟩ = some (.int .i64 s.done)) (S := [sb]) (bC1.cell 1) (by simp; omega)
  have D2 := fun p : WithinE [sb] (fun W => W.cell? ⟨sb, 2, none⟩ = some (.int .i64 s.done)) w1 => p.e
  refine wp_region_inE [sb] [0, 1, 2, 3, 4, 6, 7, 9, 10, 11, 12, 13] [5, 8, 14, 15, 16] [17, 18, 19] (fun W => W.cell? ⟨sb, 2, none⟩ = some (.int .i64 s.done)) (bS1.cell 2) (by kernel_rfl) (by kernel_rfl) (by intro c d u a w h; cases d <;> exact h) ?_
  intro hne
  show wpQuiet _ _ _ _ [_, _, _, _, _, _, _, _, _, _, _, _] _
  repeat (go_big_quiet_step (fail))
  refine wpQuiet_nil ?_
  show wpList _ _ _ [_] _ _
  have hSf := fun i => bS1.free i
  have hSc := fun i => bS1.cell i
  have N3 : w1.drew.cell? ⟨sb, 3, none⟩ = some (.int .i64 s.now) := bS1.cell 3
  go_wp2_with fail
  refine check_ofE (S := [sb]) (Only.refl _ _).drew (bS1.cell 2) ?_
  show wpList _ _ _ [_] _ _
  go_wp2_with fail
  refine check_ofE (S := [sb]) (Only.refl _ _).drew (bS1.cell 2) ?_
  show wpList _ _ _ [_] _ _
  go_wp2_with fail
  refine check_ofE (S := [sb]) (Only.refl _ _).drew (bS1.cell 2) ?_
  show wpList _ _ _ [_] _ _
  go_wp2_with fail
  refine check_ofE (S := [sb]) (Only.refl _ _).drew (bS1.cell 2) ?_
  show wpList _ _ _ [_] _ _
  go_wp2_with fail
  refine check_ofE (S := [sb]) (((Only.refl _ _).setCell (.inl (by simp)) _).drew) ((bS1.set 3 _).cell 2) ?_
  show wpList _ _ _ [_, _, _] _ _
  have hO2 := fun u v => ((Only.refl [sb] w1).setCell (p := ⟨sb, 3, none⟩) (.inl (by simp)) u).setCell (p := ⟨sb, 2, none⟩) (.inl (by simp)) v
  have hC2 := fun u v i => ((hO2 u v).blk bC1 (by simp; omega)).cell i
  have hC2' := fun u v i => ((hO2 u v).drew.blk bC1 (by simp; omega)).cell i
  have hA2 := fun u v i => ((hO2 u v).blk bA1 (by simp; omega)).cell i
  have hA2f := fun u v i => ((hO2 u v).blk bA1 (by simp; omega)).free i
  have hS2 := fun u v => ((bS1.set 3 u).set 2 v).cell 0
  rw [hav] at hS2
  rcases hm with hm | hm
  · have hk4 : ((c.kind : Int) == 4) = true := by rw [beq_iff_eq]; omega
    have hk5 : ((c.kind : Int) == 5) = false := by rw [beq_eq_false_iff_ne]; omega
    have HM : Hid (c.kind = 4 ∨ c.kind = 5) := .inl hm
    clear hm
    go_wp2
    have hR := HR.out
    subst hR
    refine bodyPost_ret (v := .agg #[.int .i64 0, .int .i64 0, .int .i64 s.all.length, .bool false]) (by simp [results, Tryz.results9, go_sem, hA2]) rfl ?_
    have hE : s.do c = (⟨0, 0, s.all.length, false⟩, { s with now := t, done := s.done + 1 }) := by
      unfold MS.do
      rw [if_neg (by rw [HK.out]; decide), HT.out]
      dsimp only
      rw [if_pos HM.out]
      rfl
    rw [hE]
    have hb0 := (bS1.set 3 (.int .i64 t)).set 2 (.int .i64 (s.done + 1))
    refine ⟨rfl, M, av, pf, StAt.ticked h ?hw (Only.blk (S := [w.heap.size + 1]) ?ho hb0 (by simp; omega)), Only.mono ?hw (by simp [hM]), fun _ q => q, fun _ q => .inl q, fun _ q => .inl q⟩
    case hw =>
      refine Only.drew ?_
      iterate 4 (refine Only.setCell ?_ (.inr (by simp <;> omega)) _)
      iterate 2 (refine Only.setCell ?_ (.inl (by simp)) _)
      exact hO1.of_nil
    case ho =>
      refine Only.drew ?_
      iterate 4 (refine Only.setCell ?_ (.inl (by simp)) _)
      exact Only.refl _ _
  · have hk4 : ((c.kind : Int) == 4) = false := by rw [beq_eq_false_iff_ne]; omega
    have hk5 : ((c.kind : Int) == 5) = true := by rw [beq_iff_eq]; omega
    have HM : Hid (c.kind = 4 ∨ c.kind = 5) := .inr hm
    clear hm
    go_wp2
    have hR := HR.out
    subst hR
    refine bodyPost_ret (v := .agg #[.int .i64 0, .int .i64 0, .int .i64 s.all.length, .bool false]) (by simp [results, Tryz.results9, go_sem, hA2]) rfl ?_
    have hE : s.do c = (⟨0, 0, s.all.length, false⟩, { s with now := t, done := s.done + 1 }) := by
      unfold MS.do
      rw [if_neg (by rw [HK.out]; decide), HT.out]
      dsimp only
      rw [if_pos HM.out]
      rfl
    rw [hE]
    have hb0 := (bS1.set 3 (.int .i64 t)).set 2 (.int .i64 (s.done + 1))
    refine ⟨rfl, M, av, pf, StAt.ticked h ?hw (Only.blk (S := [w.heap.size + 1]) ?ho hb0 (by simp; omega)), Only.mono ?hw (by simp [hM]), fun _ q => q, fun _ q => .inl q, fun _ q => .inl q⟩
    case hw =>
      refine Only.drew ?_
      iterate 4 (refine Only.setCell ?_ (.inr (by simp <;> omega)) _)
      iterate 2 (refine Only.setCell ?_ (.inl (by simp)) _)
      exact hO1.of_nil
    case ho =>
      refine Only.drew ?_
      iterate 4 (refine Only.setCell ?_ (.inl (by simp)) _)
      exact Only.refl _ _
end
section
open Go.RowKit
set_option maxRecDepth 100000 in
set_option maxHeartbeats 4000000 in
theorem do_gone {w : World} {M : List Nat} {sb mb N : Nat} {av ev : Value} {pf : ByteArray → Value} {s : MS} {c : Cmd} (h : StAt w M sb mb av pf s) (hs : s.Ok N) (hN : N ≤ 100000) (hc : CmdOk c)
    (he : Rd M w 4 ev c.events.length (c.events.flatMap EventR.cells)) (hk : c.check = 0) (hm : ¬ (c.kind = 4 ∨ c.kind = 5)) (hd : (s.find c.stream).deleted = true) :
    Calls Tryz.prog 9 #[.pointer (some ⟨sb, 0, none⟩), c.val ev] w fun e w' => e = .returned (s.do c).1.val ∧ StLeads w M sb mb av (s.do c).2 w' := by
  obtain ⟨A1, cap1, hev, hn3, hn4, hes⟩ := he.1.openE EventR.cells (fun _ => rfl)
  obtain ⟨A2, cap2, hav, hnc2, hcm2, hel2⟩ := h.cell
  unfold maxLen at hn4 hcm2
  have hsb := h.blk.lt
  subst hev
  have HCk := Lib.hid (fun (W : World) (hw : Only [] w W) => show Calls Tryz.prog 20 #[.agg #[.int .i64 c.kind, .int .i64 c.time, .string c.stream, .int .i64 c.expected, .slice A1 c.events.length cap1, .int .i64 c.mt.maxCount, .int .i64 c.mt.maxAge, .int .i64 c.mt.before]] W fun e w' => e = .returned (.int .i64 c.check) ∧ Only [] W w' from check_any c _ W (he.1.only0 hw) hc)
  have h2 : ∀ o1 o2, Only [] w ((w.alloc o1).alloc o2) := fun o1 o2 => ((Only.refl [] w).alloc o1).alloc o2
  have kC : ∀ cs t o2, Blk ((w.alloc (.cells cs t)).alloc o2) w.heap.size t cs := fun cs t o2 => ((Only.refl [] _).alloc o2).blk (Blk.new w t cs) (by simp)
  have kA : ∀ cs t o1, Blk ((w.alloc o1).alloc (.cells cs t)) (w.heap.size + 1) t cs := fun cs t o1 => by
    have := Blk.new (w.alloc o1) t cs
    simpa using this
  obtain ⟨R, hR⟩ : ∃ R, R = s.do c := ⟨_, rfl⟩
  rw [← hR]
  have HR := Lib.hid hR
  clear hR
  rw [show c.val (.slice A1 c.events.length cap1) = .agg #[.int .i64 c.kind, .int .i64 c.time, .string c.stream, .int .i64 c.expected, .slice A1 c.events.length cap1, .int .i64 c.mt.maxCount, .int .i64 c.mt.maxAge, .int .i64 c.mt.before] from rfl]
  have HK := Lib.hid hk
  rw [hk] at HCk
  have hk4 : ((c.kind : Int) == 4) = false := by rw [beq_eq_false_iff_ne]; omega
  have hk5 : ((c.kind : Int) == 5) = false := by rw [beq_eq_false_iff_ne]; omega
  have HM := Lib.hid hm
  clear hk hm
  obtain ⟨A3, cap3, hpv3, hn5, hn6, hps⟩ := (h.rd c.stream).1.openI
  have hfd : ∀ (W : World) (t : Int), StAt W M sb mb av pf { s with now := t, done := s.done + 1 } → Calls Tryz.prog 21 #[.pointer (some ⟨sb, 0, none⟩), .string c.stream] W fun e w' => e = .returned (.agg #[.slice A3 (s.find c.stream).places.length cap3, .int .i64 (s.find c.stream).mt.maxCount, .int .i64 (s.find c.stream).mt.maxAge, .int .i64 (s.find c.stream).mt.before, .int .i64 (s.find c.stream).floor, .bool (s.find c.stream).deleted]) ∧ Only [] W w' := fun W t hst => by
    have q := find_any hst c.stream
    rw [show pvOf { s with now := t, done := s.done + 1 } pf c.stream = pvOf s pf c.stream from rfl, hpv3] at q
    exact q
  have HFd := Lib.hid hfd
  clear hfd
  obtain ⟨x, hx⟩ : ∃ x, x = s.find c.stream := ⟨_, rfl⟩
  rw [← hx] at HFd
  have HXf := Lib.hid hx
  have hdn := IntWalk.i64_in (s.done + 1) ⟨by have := hs.done; omega, by have := hs.done; omega⟩
  have hne0 : w.heap.size ≠ sb := by omega
  rw [← hx] at hd
  rw [hd] at HFd
  have HD := Lib.hid hd
  clear hd hx
  go_enter Tryz.func9, Tryz.ntmps9
  go_wp2_with (go_at_call 20; refine (HCk.out _ (h2 _ _)).mono ?_; rintro e w1 ⟨rfl, ho1⟩)
  obtain ⟨t, ht⟩ : ∃ t, t = max s.now c.time := ⟨_, rfl⟩
  have hmx : (if s.now < c.time then c.time else s.now) = t := by rw [ht]; split <;> omega
  have hmy : (if c.time > s.now then c.time else s.now) = t := hmx
  have HT := Lib.hid ht
  clear ht
  have bC1 := ho1.blk (kC _ _ _) (by simp)
  have bA1 := ho1.blk (kA _ _ _) (by simp)
  have hO1 : Only [] w w1 := (h2 _ _).trans ho1
  have bS1 := hO1.blk h.blk (by simp)
  have C1 := WithinE.cell (E := fun W => W.cell? ⟨sb, 2, none⟩ = some (.int .i64 s.done)) (S := [sb]) (bC1.cell 1) (by simp; omega)
  have D2 := fun p : WithinE [sb] (fun W => W.cell? ⟨sb, 2, none⟩ = some (.int .i64 s.done)) w1 => p.e
  refine wp_region_inE [sb] [0, 1, 2, 3, 4, 6, 7, 9, 10, 11, 12, 13] [5, 8, 14, 15, 16] [17, 18, 19] (fun W => W.cell? ⟨sb, 2, none⟩ = some (.int .i64 s.done)) (bS1.cell 2) (by kernel_rfl) (by kernel_rfl) (by intro c d u a w h; cases d <;> exact h) ?_
  intro hne
  show wpQuiet _ _ _ _ [_, _, _, _, _, _, _, _, _, _, _, _] _
  repeat (go_big_quiet_step (fail))
  refine wpQuiet_nil ?_
  show wpList _ _ _ [_] _ _
  have hSf := fun i => bS1.free i
  have hSc := fun i => bS1.cell i
  have N3 : w1.drew.cell? ⟨sb, 3, none⟩ = some (.int .i64 s.now) := bS1.cell 3
  go_wp2_with fail
  refine check_ofE (S := [sb]) (Only.refl _ _).drew (bS1.cell 2) ?_
  show wpList _ _ _ [_] _ _
  go_wp2_with fail
  refine check_ofE (S := [sb]) (Only.refl _ _).drew (bS1.cell 2) ?_
  show wpList _ _ _ [_] _ _
  go_wp2_with fail
  refine check_ofE (S := [sb]) (Only.refl _ _).drew (bS1.cell 2) ?_
  show wpList _ _ _ [_] _ _
  go_wp2_with fail
  refine check_ofE (S := [sb]) (Only.refl _ _).drew (bS1.cell 2) ?_
  show wpList _ _ _ [_] _ _
  go_wp2_with fail
  refine check_ofE (S := [sb]) (((Only.refl _ _).setCell (.inl (by simp)) _).drew) ((bS1.set 3 _).cell 2) ?_
  show wpList _ _ _ [_, _, _] _ _
  have hO2 := fun u v => ((Only.refl [sb] w1).setCell (p := ⟨sb, 3, none⟩) (.inl (by simp)) u).setCell (p := ⟨sb, 2, none⟩) (.inl (by simp)) v
  have hC2 := fun u v i => ((hO2 u v).blk bC1 (by simp; omega)).cell i
  have hC2' := fun u v i => ((hO2 u v).drew.blk bC1 (by simp; omega)).cell i
  have hb0 := (bS1.set 3 (.int .i64 t)).set 2 (.int .i64 (s.done + 1))
  have hT2 := StAt.ticked h (hO1.of_nil.trans (hO2 (.int .i64 t) (.int .i64 (s.done + 1)))) hb0
  have hT3 := hT2.only0 (Only.refl [] _).drew
  have kA2 := fun u v => (hO2 u v).drew.blk bA1 (by simp; omega)
  go_wp2_with (go_at_call 21; refine (HFd.out _ _ (by first | exact hT3 | exact hT2)).mono ?_; rintro e w2 ⟨rfl, ho2⟩; have hA3 := fun o : Obj => fun i => (((Only.refl [] w2).alloc o).blk (ho2.blk (kA2 _ _) (by simp)) (by simp)).cell i; have hA3f := fun o : Obj => fun i => (((Only.refl [] w2).alloc o).blk (ho2.blk (kA2 _ _) (by simp)) (by simp)).free i)
  have hR := HR.out
  subst hR
  refine bodyPost_ret (v := .agg #[.int .i64 23, .int .i64 0, .int .i64 0, .bool false]) (by simp [results, Tryz.results9, go_sem, hA3]) rfl ?_
  have hE : s.do c = (⟨23, 0, 0, false⟩, { s with now := t, done := s.done + 1 }) := by
    unfold MS.do
    rw [if_neg (by rw [HK.out]; decide), HT.out]
    dsimp only
    rw [if_neg HM.out]
    show (if (s.find c.stream).deleted = true then _ else _) = _
    rw [← HXf.out, if_pos HD.out]
    rfl
  rw [hE]
  have hb2 := ho2.blk ((Only.refl [] _).drew.blk hb0 (by simp)) (by simp)
  refine ⟨rfl, M, av, pf, StAt.ticked h ?hw (Only.blk (S := [w.heap.size + 1]) ?ho hb2 (by simp; omega)), Only.mono ?hw (by simp [hM]), fun _ q => q, fun _ q => .inl q, fun _ q => .inl q⟩
  case hw =>
    iterate 4 (refine Only.setCell ?_ (.inr (by simp <;> omega)) _)
    refine Only.alloc ?_ _
    exact (hO1.of_nil.trans (hO2 _ _)).drew.trans ho2.of_nil
  case ho =>
    iterate 4 (refine Only.setCell ?_ (.inl (by simp)) _)
    exact (Only.refl _ _).alloc _
end
end Go.Proofs.YteinoiicnmemhaaGreatDoor

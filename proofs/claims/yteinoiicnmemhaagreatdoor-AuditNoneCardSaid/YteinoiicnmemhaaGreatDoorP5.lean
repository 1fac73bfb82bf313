/- Proved here: contracts of functions and plain laws, part 5 of one proof. Conditions: each theorem names its own. -/
import Derived.Test.YteinoiicnmemhaaGreatDoorP4
import Derived.Laws.OwnMore
import Derived.Handy
import Derived.Lib.AppendZeros
/- A log in memory: its block, its disk, its parts, each part's bodies; what a call may turn of it. -/
set_option linter.unusedVariables false
set_option linter.unusedSimpArgs false
namespace Go.Proofs.YteinoiicnmemhaaGreatDoor.J
open Go Go.RowKit Go.Sort
def partCells (x : Value × PartL) : List Value := [x.1, .int .i64 x.2.used, .bool x.2.done]
theorem partCells_len (x : Value × PartL) : (partCells x).length = 3 := rfl
/-- A slice of texts that may be grown: it is one's own, or it is full. -/
def Grows (w : World) (v : Value) (l : List ByteArray) : Prop := w.ownsRow 0 9 1 v l.length (strs l) ∨ ∃ A, v = .slice A l.length l.length
def ApartV (a b : Value) : Prop := ∀ g, a.ownBlock = some g → b.ownBlock ≠ some g
theorem ApartV.symm {a b : Value} (h : ApartV a b) : ApartV b a := fun g hg hq => h g hq hg
def logV (db : Nat) (L : LogS) (pv : Value) : Array Value := #[.pointer (some ⟨db, 0, none⟩), .string L.pre, .int .i64 L.size, pv, .int .i64 L.synced, .int .i64 L.mark, .int .i64 L.bad]
/-- a: the world in which the powers of ten were laid; nothing of it has turned. -/
structure LogAt (a w : World) (lb db mb : Nat) (d : DS) (L : LogS) (kv pv : Value) (xs : List (Value × PartL)) : Prop where
  ps : L.ps = xs.map (·.2)
  blk : Blk w lb 203 (logV db L pv)
  disk : DiskAt w db mb d kv
  row : w.ownsRow 0 236 3 pv xs.length (xs.flatMap partCells)
  part : ∀ x ∈ xs, Slc w 1 x.1 x.2.bodies.length (strs x.2.bodies) ∧ (x.2.done = true ∨ Grows w x.1 x.2.bodies)
  pair : List.Pairwise ApartV (kv :: pv :: xs.map (·.1))
  away : ∀ v ∈ kv :: pv :: xs.map (·.1), ∀ g, v.ownBlock = some g → g ≠ lb ∧ g ≠ db ∧ g ≠ mb ∧ g < w.heap.size ∧ a.heap.size ≤ g
  base : Only [] a w
  tab : Tab a
  up : a.heap.size ≤ lb ∧ a.heap.size ≤ db ∧ a.heap.size ≤ mb
def lblk (lb db mb : Nat) (kv pv : Value) (xs : List (Value × PartL)) : List Nat := lb :: db :: mb :: (kv :: pv :: xs.map (·.1)).filterMap Value.ownBlock
theorem mem_lblk {lb db mb : Nat} {kv pv : Value} {xs : List (Value × PartL)} {g : Nat} : g ∈ lblk lb db mb kv pv xs ↔ g = lb ∨ g = db ∨ g = mb ∨ ∃ v ∈ kv :: pv :: xs.map (·.1), v.ownBlock = some g := by
  unfold lblk
  rw [List.mem_cons, List.mem_cons, List.mem_cons, List.mem_filterMap]
section
variable {a w w' : World} {lb db mb : Nat} {d d' : DS} {L L' : LogS} {kv pv : Value} {xs : List (Value × PartL)} {S R : List Nat}
theorem Grows.only {v : Value} {l : List ByteArray} (h : Grows w v l) (k : Only S w w') (hn : ∀ g, v.ownBlock = some g → g ∉ S) : Grows w' v l := by
  rcases h with h | h
  · exact .inl (own_only h k hn)
  · exact .inr h
theorem LogAt.ne (h : LogAt a w lb db mb d L kv pv xs) : lb ≠ db ∧ lb ≠ mb ∧ mb ≠ db := ⟨h.blk.other h.disk.blk (by decide), fun e => (h.disk.map.ne_blk h.blk) e.symm, h.disk.ne⟩
theorem LogAt.lt (h : LogAt a w lb db mb d L kv pv xs) : lb < w.heap.size ∧ db < w.heap.size ∧ mb < w.heap.size := ⟨h.blk.lt, h.disk.blk.lt, h.disk.map.lt⟩
theorem LogAt.only (h : LogAt a w lb db mb d L kv pv xs) (k : Only S w w') (h1 : lb ∉ S) (h2 : db ∉ S) (h3 : mb ∉ S) (h4 : ∀ v ∈ kv :: pv :: xs.map (·.1), ∀ g, v.ownBlock = some g → g ∉ S) (h5 : ∀ g ∈ S, a.heap.size ≤ g) : LogAt a w' lb db mb d L kv pv xs := by
  have hx : ∀ x ∈ xs, x.1 ∈ kv :: pv :: xs.map (·.1) := fun x hx => List.mem_cons_of_mem _ (List.mem_cons_of_mem _ (List.mem_map.2 ⟨x, hx, rfl⟩))
  exact ⟨h.ps, k.blk h.blk h1, h.disk.only k h2 h3 (h4 kv (by simp)), own_only h.row k (h4 pv (by simp)), fun x hq => ⟨(h.part x hq).1.only k (h4 _ (hx x hq)), (h.part x hq).2.imp id (fun q => q.only k (h4 _ (hx x hq)))⟩, h.pair,
    fun v hv g hg => by have := h.away v hv g hg; have := k.size; exact ⟨by omega, by omega, by omega, by omega, by omega⟩, h.base.step k (fun i hi => .inr (h5 i hi)), h.tab, h.up⟩
theorem LogAt.only0 (h : LogAt a w lb db mb d L kv pv xs) (k : Only [] w w') : LogAt a w' lb db mb d L kv pv xs := h.only k (by simp) (by simp) (by simp) (by simp) (by simp)
/-- The log's own block is turned, but for its parts. -/
theorem LogAt.head (h : LogAt a w lb db mb d L kv pv xs) (k : Only [lb] w w') (hb : Blk w' lb 203 (logV db L' pv)) (hp : L'.ps = L.ps) : LogAt a w' lb db mb d L' kv pv xs := by
  have hx : ∀ x ∈ xs, x.1 ∈ kv :: pv :: xs.map (·.1) := fun x hx => List.mem_cons_of_mem _ (List.mem_cons_of_mem _ (List.mem_map.2 ⟨x, hx, rfl⟩))
  obtain ⟨n1, n2, n3⟩ := h.ne
  have h4 : ∀ v ∈ kv :: pv :: xs.map (·.1), ∀ g, v.ownBlock = some g → g ∉ [lb] := fun v hv g hg => by simpa using (h.away v hv g hg).1
  exact ⟨hp.trans h.ps, hb, h.disk.only k (by simpa using n1.symm) (by simpa using n2.symm) (h4 kv (by simp)), own_only h.row k (h4 pv (by simp)), fun x hq => ⟨(h.part x hq).1.only k (h4 _ (hx x hq)), (h.part x hq).2.imp id (fun q => q.only k (h4 _ (hx x hq)))⟩, h.pair,
    fun v hv g hg => by have := h.away v hv g hg; have := k.size; exact ⟨by omega, by omega, by omega, by omega, by omega⟩, h.base.step k (fun i hi => by rw [List.mem_singleton.1 hi]; exact .inr h.up.1), h.tab, h.up⟩
/-- The disk is turned. -/
theorem LogAt.leads (h : LogAt a w lb db mb d L kv pv xs) (hl : Leads db mb w kv w' d') : ∃ kv', LogAt a w' lb db mb d' L kv' pv xs ∧ (∀ g, kv'.ownBlock = some g → kv.ownBlock = some g ∨ w.heap.size ≤ g) ∧ Only [db, mb] w w' := by
  obtain ⟨kv', h1, h2, h3⟩ := hl
  have hx : ∀ x ∈ xs, x.1 ∈ kv :: pv :: xs.map (·.1) := fun x hx => List.mem_cons_of_mem _ (List.mem_cons_of_mem _ (List.mem_map.2 ⟨x, hx, rfl⟩))
  obtain ⟨n1, n2, n3⟩ := h.ne
  have h4 : ∀ v ∈ kv :: pv :: xs.map (·.1), ∀ g, v.ownBlock = some g → g ∉ [db, mb] := fun v hv g hg => by have := h.away v hv g hg; simp; exact ⟨this.2.1, this.2.2.1⟩
  have hp := List.pairwise_cons.1 h.pair
  have hs := h3.size
  refine ⟨kv', ⟨h.ps, h3.blk h.blk (by simp [n1, n2]), h1, own_only h.row h3 (h4 pv (by simp)), fun x hq => ⟨(h.part x hq).1.only h3 (h4 _ (hx x hq)), (h.part x hq).2.imp id (fun q => q.only h3 (h4 _ (hx x hq)))⟩, List.pairwise_cons.2 ⟨fun v hv g hg hq => ?_, hp.2⟩, fun v hv g hg => ?_, h.base.step h3 (fun i hi => ?_), h.tab, h.up⟩, h2, h3⟩
  · rcases h2 g hg with q | q
    · exact hp.1 v hv g q hq
    · have := h.away v (List.mem_cons_of_mem _ hv) g hq
      omega
  · rcases List.mem_cons.1 hv with e | hv
    · subst e
      obtain ⟨l1, l2, l3⟩ := h.lt
      have h5 := h1.apart g hg
      have h6 := h1.old g hg
      rcases h2 g hg with q | q
      · have := h.away kv (by simp) g q
        exact ⟨this.1, h5.1, h5.2, h6, this.2.2.2.2⟩
      · exact ⟨by omega, h5.1, h5.2, h6, by have := h.base.size; omega⟩
    · have := h.away v (List.mem_cons_of_mem _ hv) g hg
      exact ⟨this.1, this.2.1, this.2.2.1, by omega, this.2.2.2.2⟩
  · have hu := h.up
    right
    rcases List.mem_cons.1 hi with e | hi
    · omega
    · rw [List.mem_singleton.1 hi]; exact hu.2.2
/-- A part is put behind the others. -/
theorem LogAt.add (h : LogAt a w lb db mb d L kv pv xs) {pv2 : Value} {y : Value × PartL} (k : Only (lb :: pv.ownBlock.toList) w w') (hL : L'.ps = L.ps ++ [y.2]) (hb : Blk w' lb 203 (logV db L' pv2))
    (hr : w'.ownsRow 0 236 3 pv2 (xs.length + 1) (xs.flatMap partCells ++ partCells y)) (hf : ∀ g, pv2.ownBlock = some g → pv.ownBlock = some g ∨ w.heap.size ≤ g)
    (hv : Slc w' 1 y.1 y.2.bodies.length (strs y.2.bodies)) (hg : y.2.done = true ∨ Grows w' y.1 y.2.bodies)
    (hy : ∀ g, y.1.ownBlock = some g → (∀ v ∈ kv :: pv :: xs.map (·.1), v.ownBlock ≠ some g) ∧ pv2.ownBlock ≠ some g ∧ g ≠ lb ∧ g ≠ db ∧ g ≠ mb ∧ g < w'.heap.size ∧ a.heap.size ≤ g) : LogAt a w' lb db mb d L' kv pv2 (xs ++ [y]) := by
  have hx : ∀ x ∈ xs, x.1 ∈ kv :: pv :: xs.map (·.1) := fun x hx => List.mem_cons_of_mem _ (List.mem_cons_of_mem _ (List.mem_map.2 ⟨x, hx, rfl⟩))
  obtain ⟨n1, n2, n3⟩ := h.ne
  obtain ⟨l1, l2, l3⟩ := h.lt
  have hp := List.pairwise_cons.1 h.pair
  have hp2 := List.pairwise_cons.1 hp.2
  have hs := k.size
  have h4 : ∀ v ∈ kv :: xs.map (·.1), ∀ g, v.ownBlock = some g → g ∉ lb :: pv.ownBlock.toList := fun v hv g hg hq => by
    rcases List.mem_cons.1 hq with e | hq
    · rcases List.mem_cons.1 hv with e2 | hv
      · exact (h.away v (by simp [e2]) g hg).1 e
      · exact (h.away v (List.mem_cons_of_mem _ (List.mem_cons_of_mem _ hv)) g hg).1 e
    · have hq : pv.ownBlock = some g := by simpa using hq
      rcases List.mem_cons.1 hv with e2 | hv
      · subst e2
        exact hp.1 pv (by simp) g hg hq
      · exact hp2.1 v hv g hq hg
  have hm : ∀ x ∈ xs, x.1 ∈ kv :: xs.map (·.1) := fun x hx => List.mem_cons_of_mem _ (List.mem_map.2 ⟨x, hx, rfl⟩)
  have hdb : ∀ g, (g = db ∨ g = mb) → g ∉ lb :: pv.ownBlock.toList := fun g hg hq => by
    rcases List.mem_cons.1 hq with e | hq
    · omega
    · have hq : pv.ownBlock = some g := by simpa using hq
      have := h.away pv (by simp) g hq
      omega
  have hpv2 : ∀ g, pv2.ownBlock = some g → g ≠ lb ∧ g ≠ db ∧ g ≠ mb ∧ g < w'.heap.size ∧ a.heap.size ≤ g := fun g hg => by
    have h9 := (hr.lt g hg).2
    rcases hf g hg with q | q
    · have := h.away pv (by simp) g q
      exact ⟨this.1, this.2.1, this.2.2.1, h9, this.2.2.2.2⟩
    · exact ⟨by omega, by omega, by omega, h9, by have := h.base.size; omega⟩
  refine ⟨by rw [hL, h.ps, List.map_append]; rfl, hb, h.disk.only k (hdb db (.inl rfl)) (hdb mb (.inr rfl)) (h4 kv (by simp)), ?_, fun x hq => ?_, ?_, fun v hv g hg => ?_, h.base.step k (fun i hi => ?_), h.tab, h.up⟩
  · rw [List.length_append, List.flatMap_append]
    simpa using hr
  · rcases List.mem_append.1 hq with hq | hq
    · exact ⟨(h.part x hq).1.only k (h4 _ (hm x hq)), (h.part x hq).2.imp id (fun q => q.only k (h4 _ (hm x hq)))⟩
    · rw [List.mem_singleton.1 hq]
      exact ⟨hv, hg⟩
  · rw [List.map_append, List.pairwise_cons, List.pairwise_cons]
    refine ⟨fun v hv g hg hq => ?_, fun v hv g hg hq => ?_, ?_⟩
    · rcases List.mem_cons.1 hv with e | hv
      · subst e
        rcases hf g hq with q | q
        · exact hp.1 pv (by simp) g hg q
        · have := h.away kv (by simp) g hg
          omega
      · rcases List.mem_append.1 hv with hv | hv
        · exact hp.1 v (List.mem_cons_of_mem _ hv) g hg hq
        · rw [show v = y.1 by simpa using hv] at hq
          exact (hy g hq).1 kv (by simp) hg
    · rcases List.mem_append.1 hv with hv | hv
      · rcases hf g hg with q | q
        · exact hp2.1 v hv g q hq
        · have := h.away v (List.mem_cons_of_mem _ (List.mem_cons_of_mem _ hv)) g hq
          omega
      · rw [show v = y.1 by simpa using hv] at hq
        exact (hy g hq).2.1 hg
    · refine List.pairwise_append.2 ⟨hp2.2, List.pairwise_singleton _ _, fun a ha b hb g hg hq => ?_⟩
      rw [show b = y.1 by simpa using hb] at hq
      exact (hy g hq).1 a (List.mem_cons_of_mem _ (List.mem_cons_of_mem _ ha)) hg
  · rcases List.mem_cons.1 hv with e | hv
    · have := h.away v (by simp [e]) g hg
      exact ⟨this.1, this.2.1, this.2.2.1, by omega, by omega⟩
    · rcases List.mem_cons.1 hv with e | hv
      · subst e
        exact hpv2 g hg
      · rw [List.map_append] at hv
        rcases List.mem_append.1 hv with hv | hv
        · have := h.away v (List.mem_cons_of_mem _ (List.mem_cons_of_mem _ hv)) g hg
          exact ⟨this.1, this.2.1, this.2.2.1, by omega, by omega⟩
        · rw [show v = y.1 by simpa using hv] at hg
          exact (hy g hg).2.2
  · have hu := h.up
    rcases List.mem_cons.1 hi with e | hi
    · right; omega
    · have hq : pv.ownBlock = some i := by simpa using hi
      have := h.away pv (by simp) i hq
      exact .inr (by omega)
/-- A part is turned. -/
theorem LogAt.turn (h : LogAt a w lb db mb d L kv pv xs) {j : Nat} {x y : Value × PartL} (hj : xs[j]? = some x) (k : Only S w w') (hS : ∀ g ∈ S, pv.ownBlock = some g ∨ x.1.ownBlock = some g) (hL : L' = L.setPart j y.2)
    (hr : w'.ownsRow 0 236 3 pv xs.length ((xs.set j y).flatMap partCells)) (hv : Slc w' 1 y.1 y.2.bodies.length (strs y.2.bodies)) (hg : y.2.done = true ∨ Grows w' y.1 y.2.bodies)
    (hy : ∀ g, y.1.ownBlock = some g → (x.1.ownBlock = some g ∨ w.heap.size ≤ g) ∧ g < w'.heap.size) : LogAt a w' lb db mb d L' kv pv (xs.set j y) := by
  obtain ⟨hjl, hje⟩ := List.getElem?_eq_some_iff.1 hj
  have hxm : x ∈ xs := by rw [← hje]; exact List.getElem_mem _
  have hx : ∀ x ∈ xs, x.1 ∈ kv :: pv :: xs.map (·.1) := fun x hx => List.mem_cons_of_mem _ (List.mem_cons_of_mem _ (List.mem_map.2 ⟨x, hx, rfl⟩))
  obtain ⟨n1, n2, n3⟩ := h.ne
  obtain ⟨l1, l2, l3⟩ := h.lt
  have hp := List.pairwise_cons.1 h.pair
  have hp2 := List.pairwise_cons.1 hp.2
  have hs := k.size
  have hSl : ∀ g ∈ S, g ≠ lb ∧ g ≠ db ∧ g ≠ mb := fun g hq => by
    rcases hS g hq with q | q
    · have := h.away pv (by simp) g q
      exact ⟨this.1, this.2.1, this.2.2.1⟩
    · have := h.away x.1 (hx x hxm) g q
      exact ⟨this.1, this.2.1, this.2.2.1⟩
  have hkv : ∀ g, kv.ownBlock = some g → g ∉ S := fun g hg hq => by
    rcases hS g hq with q | q
    · exact hp.1 pv (by simp) g hg q
    · exact hp.1 x.1 (List.mem_cons_of_mem _ (List.mem_map.2 ⟨x, hxm, rfl⟩)) g hg q
  have hpw := List.pairwise_iff_getElem.1 hp2.2
  have hoth : ∀ i (hi : i < xs.length), i ≠ j → ApartV xs[i].1 x.1 := fun i hi hne => by
    have hil : i < (xs.map (·.1)).length := by simpa using hi
    have hjl' : j < (xs.map (·.1)).length := by simpa using hjl
    rcases Nat.lt_or_gt_of_ne hne with q | q
    · have := hpw i j hil hjl' q
      simpa [hje] using this
    · have := (hpw j i hjl' hil q).symm
      simpa [hje] using this
  have hpvx : ApartV pv x.1 := hp2.1 x.1 (List.mem_map.2 ⟨x, hxm, rfl⟩)
  have hox : ∀ i (hi : i < xs.length), i ≠ j → ∀ g, xs[i].1.ownBlock = some g → g ∉ S := fun i hi hne g hg hq => by
    rcases hS g hq with q | q
    · exact hp2.1 xs[i].1 (List.mem_map.2 ⟨xs[i], List.getElem_mem _, rfl⟩) g q hg
    · exact hoth i hi hne g hg q
  have hyo : ∀ v, v ∈ kv :: pv :: xs.map (·.1) → ApartV v x.1 → ApartV v y.1 := fun v hv ha g hg hq => by
    rcases (hy g hq).1 with q | q
    · exact ha g hg q
    · have := h.away v hv g hg
      omega
  subst hL
  refine ⟨by simp only [LogS.setPart]; rw [h.ps, List.map_set], k.blk h.blk (fun q => (hSl lb q).1 rfl), h.disk.only k (fun q => (hSl db q).2.1 rfl) (fun q => (hSl mb q).2.2 rfl) hkv, by rw [List.length_set]; exact hr, fun z hz => ?_, ?_, fun v hv g hg => ?_, h.base.step k (fun i hi => ?_), h.tab, h.up⟩
  · obtain ⟨i, hi, hie⟩ := List.getElem_of_mem hz
    rw [List.length_set] at hi
    by_cases hij : i = j
    · subst hij
      rw [List.getElem_set_self] at hie
      subst hie
      exact ⟨hv, hg⟩
    · rw [List.getElem_set_ne (fun e => hij e.symm)] at hie
      subst hie
      have hm := List.getElem_mem (l := xs) hi
      exact ⟨(h.part _ hm).1.only k (hox i hi hij), (h.part _ hm).2.imp id (fun q => q.only k (hox i hi hij))⟩
  · have hmem : ∀ v ∈ (xs.set j y).map (·.1), v = y.1 ∨ ∃ i, ∃ hi : i < xs.length, i ≠ j ∧ v = xs[i].1 := fun v hv => by
      obtain ⟨i, hi, hie⟩ := List.getElem_of_mem hv
      rw [List.length_map, List.length_set] at hi
      rw [List.getElem_map] at hie
      by_cases hij : i = j
      · subst hij
        rw [List.getElem_set_self] at hie
        exact .inl hie.symm
      · rw [List.getElem_set_ne (fun e => hij e.symm)] at hie
        exact .inr ⟨i, hi, hij, hie.symm⟩
    refine List.pairwise_cons.2 ⟨fun v hv => ?_, List.pairwise_cons.2 ⟨fun v hv => ?_, List.pairwise_iff_getElem.2 fun a b ha hb hab => ?_⟩⟩
    · rcases List.mem_cons.1 hv with e | hv
      · subst e; exact hp.1 v (by simp)
      · rcases hmem v hv with e | ⟨i, hi, hij, e⟩
        · subst e
          exact hyo kv (by simp) (hp.1 _ (List.mem_cons_of_mem _ (List.mem_map.2 ⟨x, hxm, rfl⟩)))
        · subst e
          exact hp.1 _ (List.mem_cons_of_mem _ (List.mem_map.2 ⟨_, List.getElem_mem _, rfl⟩))
    · rcases hmem v hv with e | ⟨i, hi, hij, e⟩
      · subst e
        exact hyo pv (by simp) hpvx
      · subst e
        exact hp2.1 _ (List.mem_map.2 ⟨_, List.getElem_mem _, rfl⟩)
    · rw [List.length_map, List.length_set] at ha hb
      rw [List.getElem_map, List.getElem_map]
      by_cases h1 : a = j
      · subst h1
        rw [List.getElem_set_self, List.getElem_set_ne (by omega)]
        exact (hyo _ (hx _ (List.getElem_mem _)) (hoth b (by simpa using hb) (by omega))).symm
      · rw [List.getElem_set_ne (fun e => h1 e.symm)]
        by_cases h2 : b = j
        · subst h2
          rw [List.getElem_set_self]
          exact hyo _ (hx _ (List.getElem_mem _)) (hoth a (by simpa using ha) h1)
        · rw [List.getElem_set_ne (fun e => h2 e.symm)]
          have := hpw a b (by simpa using ha) (by simpa using hb) hab
          simpa using this
  · have hvc : v ∈ kv :: pv :: xs.map (·.1) ∨ v = y.1 := by
      rcases List.mem_cons.1 hv with e | hv
      · exact .inl (by simp [e])
      · rcases List.mem_cons.1 hv with e | hv
        · exact .inl (by simp [e])
        · obtain ⟨z, hz, e⟩ := List.mem_map.1 hv
          rcases List.mem_or_eq_of_mem_set hz with q | q
          · exact .inl (by subst e; exact hx z q)
          · exact .inr (by rw [← e, q])
    rcases hvc with hv | e
    · have := h.away v hv g hg
      exact ⟨this.1, this.2.1, this.2.2.1, by omega, by omega⟩
    · subst e
      obtain ⟨q, q2⟩ := hy g hg
      rcases q with q | q
      · have := h.away x.1 (hx x hxm) g q
        exact ⟨this.1, this.2.1, this.2.2.1, q2, by omega⟩
      · exact ⟨by omega, by omega, by omega, q2, by have := h.base.size; omega⟩
  · rcases hS i hi with q | q
    · have := h.away pv (by simp) i q
      exact .inr (by omega)
    · have := h.away x.1 (hx x hxm) i q
      exact .inr (by omega)
/-! ## a log as it is seen from outside -/
def LogIn (a w : World) (lb db mb : Nat) (d : DS) (L : LogS) (R : List Nat) : Prop := ∃ kv pv xs, LogAt a w lb db mb d L kv pv xs ∧ R = lblk lb db mb kv pv xs
/-- What a call leaves. -/
def LTo (a : World) (lb db mb : Nat) (R : List Nat) (w w' : World) (r : LogS × DS) : Prop := ∃ R', LogIn a w' lb db mb r.2 r.1 R' ∧ Only R w w' ∧ ∀ g ∈ R', g ∈ R ∨ w.heap.size ≤ g
theorem LogIn.only (h : LogIn a w lb db mb d L R) (k : Only S w w') (hn : ∀ g ∈ R, g ∉ S) (hu : ∀ g ∈ S, a.heap.size ≤ g) : LogIn a w' lb db mb d L R := by
  obtain ⟨kv, pv, xs, h1, rfl⟩ := h
  exact ⟨kv, pv, xs, h1.only k (hn lb (mem_lblk.2 (.inl rfl))) (hn db (mem_lblk.2 (.inr (.inl rfl)))) (hn mb (mem_lblk.2 (.inr (.inr (.inl rfl))))) (fun v hv g hg => hn g (mem_lblk.2 (.inr (.inr (.inr ⟨v, hv, hg⟩))))) hu, rfl⟩
theorem LogIn.only0 (h : LogIn a w lb db mb d L R) (k : Only [] w w') : LogIn a w' lb db mb d L R := h.only k (by simp) (by simp)
theorem LTo.refl (h : LogIn a w lb db mb d L R) (k : Only [] w w') : LTo a lb db mb R w w' (L, d) := ⟨R, h.only0 k, k.of_nil, fun g hg => .inl hg⟩
theorem LTo.trans {R : List Nat} {w w1 w2 : World} {R1 : List Nat} {r : LogS × DS} (k : Only R w w1) (hR : ∀ g ∈ R1, g ∈ R ∨ w.heap.size ≤ g) (h : LTo a lb db mb R1 w1 w2 r) : LTo a lb db mb R w w2 r := by
  obtain ⟨R2, h1, h2, h3⟩ := h
  have hs := k.size
  exact ⟨R2, h1, k.step h2 hR, fun g hg => (h3 g hg).elim (fun q => hR g q) (fun q => .inr (by omega))⟩
theorem LogIn.lt (h : LogIn a w lb db mb d L R) : ∀ g ∈ R, g < w.heap.size := by
  obtain ⟨kv, pv, xs, h1, rfl⟩ := h
  intro g hg
  obtain ⟨l1, l2, l3⟩ := h1.lt
  rcases mem_lblk.1 hg with rfl | rfl | rfl | ⟨v, hv, hq⟩
  · exact l1
  · exact l2
  · exact l3
  · exact (h1.away v hv g hq).2.2.2.1
theorem LogAt.tabw (h : LogAt a w lb db mb d L kv pv xs) : Tab w := h.tab.only h.base
end
end Go.Proofs.YteinoiicnmemhaaGreatDoor.J
/- Contracts: what a log does at its disk (told, file), how many records it has (Chunks, Len), sync. -/
set_option linter.unusedVariables false
set_option linter.unusedSimpArgs false
namespace Go.Proofs.YteinoiicnmemhaaGreatDoor.J
open Go Go.RowKit Go.Sort
/-- A log's block, or its disk, is turned. -/
def LogTo (a : World) (lb db mb : Nat) (w : World) (kv pv : Value) (xs : List (Value × PartL)) (w' : World) (r : LogS × DS) : Prop :=
  ∃ kv', LogAt a w' lb db mb r.2 r.1 kv' pv xs ∧ (∀ g, kv'.ownBlock = some g → kv.ownBlock = some g ∨ w.heap.size ≤ g) ∧ Only [lb, db, mb] w w'
section
variable {a w w1 w' : World} {lb db mb M : Nat} {d : DS} {L : LogS} {kv pv : Value} {xs : List (Value × PartL)}
theorem LogTo.step {kv1 : Value} {r : LogS × DS} (k : Only [lb, db, mb] w w1) (hk : ∀ g, kv1.ownBlock = some g → kv.ownBlock = some g ∨ w.heap.size ≤ g) (h : LogTo a lb db mb w1 kv1 pv xs w' r) : LogTo a lb db mb w kv pv xs w' r := by
  obtain ⟨kv', h1, h2, h3⟩ := h
  have hs := k.size
  exact ⟨kv', h1, fun g hg => (h2 g hg).elim (fun q => hk g q) (fun q => .inr (by omega)), k.trans h3⟩
theorem LogTo.refl (h : LogAt a w lb db mb d L kv pv xs) (k : Only [] w w') : LogTo a lb db mb w kv pv xs w' (L, d) := ⟨kv, h.only0 k, fun g hg => .inl hg, k.of_nil⟩
theorem LogTo.out {r : LogS × DS} (h : LogTo a lb db mb w kv pv xs w' r) : LTo a lb db mb (lblk lb db mb kv pv xs) w w' r := by
  obtain ⟨kv', h1, h2, h3⟩ := h
  refine ⟨_, ⟨kv', pv, xs, h1, rfl⟩, h3.mono (fun g hg => ?_), fun g hg => ?_⟩
  · refine mem_lblk.2 ?_
    simp only [List.mem_cons, List.not_mem_nil, or_false] at hg
    rcases hg with e | e | e
    · exact .inl e
    · exact .inr (.inl e)
    · exact .inr (.inr (.inl e))
  · rcases mem_lblk.1 hg with e | e | e | ⟨v, hv, hq⟩
    · exact .inl (mem_lblk.2 (.inl e))
    · exact .inl (mem_lblk.2 (.inr (.inl e)))
    · exact .inl (mem_lblk.2 (.inr (.inr (.inl e))))
    · rcases List.mem_cons.1 hv with e | hv
      · subst e
        rcases h2 g hq with q | q
        · exact .inl (mem_lblk.2 (.inr (.inr (.inr ⟨kv, by simp, q⟩))))
        · exact .inr q
      · exact .inl (mem_lblk.2 (.inr (.inr (.inr ⟨v, List.mem_cons_of_mem _ hv, hq⟩))))
theorem LogAt.cell0 (h : LogAt a w lb db mb d L kv pv xs) : w.cell? ⟨lb, 0, none⟩ = some (.pointer (some ⟨db, 0, none⟩)) := h.blk.cell 0
theorem LogAt.cell3 (h : LogAt a w lb db mb d L kv pv xs) : w.cell? ⟨lb, 3, none⟩ = some pv := h.blk.cell 3
end
end Go.Proofs.YteinoiicnmemhaaGreatDoor.J
/- Contracts: how many records each chunk has (Chunks), and all (Len). -/
set_option linter.unusedVariables false
set_option linter.unusedSimpArgs false
namespace Go.Proofs.YteinoiicnmemhaaGreatDoor.J
open Go Go.RowKit Go.Sort
theorem app1i {W : World} {base : Nat} {v : Value} {l : List Int} (hown : W.ownsRow base 3 1 v l.length (ints l)) (hb : base ≤ W.heap.size) (hl : l.length ≤ 10000000) (x : Int) :
    ∃ A cap w', (Builtin.append_ #[48, 48] 48 #[v, .slice (some ⟨W.heap.size, 0, none⟩) 1 1]).run Tryz.prog (W.alloc (.cells #[.int .i64 x] 3)) = .ok (.slice A (l.length + 1) cap) w' ∧ w'.ownsRow base 3 1 (.slice A (l ++ [x]).length cap) (l ++ [x]).length (ints (l ++ [x])) ∧ Only v.ownBlock.toList (W.alloc (.cells #[.int .i64 x] 3)) w' := by
  have hO : Only [] W (W.alloc (.cells #[.int .i64 x] 3)) := ((Only.refl [] W).alloc _)
  obtain ⟨A, cap, w', h1, h2, h3, _⟩ := run_app (P := Tryz.prog) (w := (W.alloc (.cells #[.int .i64 x] 3))) 48 48 base 3 (.int .i64 0) 1 8 Tryz.underlying48 infoIJ rfl (by decide) (own_only hown hO (by simp)) ((slc_new1 (w := W) (e := 3) (size := 1) (cs := ints [x]) rfl)) (by intro u hu; simp [ints] at hu; subst hu; rfl) (by omega) (by unfold maxLen; omega) (Nat.le_trans hb hO.size)
  refine ⟨A, cap, w', h1, ?_, h3⟩
  have e : ints (l ++ [x]) = ints l ++ ints [x] := by simp [ints]
  rw [List.length_append, e]
  exact h2
/-- What a part tells in memory. -/
theorem LogAt.at {a w : World} {lb db mb : Nat} {d : DS} {L : LogS} {kv pv : Value} {xs : List (Value × PartL)} (h : LogAt a w lb db mb d L kv pv xs) {k : Nat} (hk : k < xs.length) :
    ∃ g cap, pv = .slice (some ⟨g, 0, none⟩) xs.length cap ∧ g < w.heap.size ∧ w.cell? ⟨g, k * 3, none⟩ = some xs[k].1 ∧ w.cell? ⟨g, k * 3 + 1, none⟩ = some (.int .i64 xs[k].2.used) ∧ w.cell? ⟨g, k * 3 + 2, none⟩ = some (.bool xs[k].2.done) := by
  obtain ⟨g, cap, cur, hv, _, hb⟩ := own_some h.row (by omega)
  have hs := (Slc.of_own h.row).1
  obtain ⟨A, cap', hv', h1, h2, h3⟩ := hs.openE partCells partCells_len
  rw [hv] at hv'
  cases hv'
  obtain ⟨b, off, e, hlt, hc⟩ := h3 k hk
  cases e
  refine ⟨g, cap, hv, hlt, ?_, ?_, ?_⟩
  · have := hc 0 (by omega)
    simpa [partCells] using this
  · have := hc 1 (by omega)
    simpa [partCells] using this
  · have := hc 2 (by omega)
    simpa [partCells] using this
theorem slc_len {w : World} {size n : Nat} {v : Value} {cs : List Value} (h : Slc w size v n cs) : ∃ A cap, v = .slice A n cap := by
  obtain ⟨A, cap, hv, _⟩ := h
  exact ⟨A, cap, hv⟩
section
variable {a w w1 w' : World} {lb db mb M : Nat} {d : DS} {L : LogS} {kv pv : Value} {xs : List (Value × PartL)}
set_option maxRecDepth 100000 in
set_option maxHeartbeats 2000000 in
theorem jchunkL_any (h : LogAt a w lb db mb d L kv pv xs) (hn : xs.length ≤ 1000000) :
    Calls Tryz.prog 135 #[.pointer (some ⟨lb, 0, none⟩)] w fun e w' => ∃ A cap, e = .returned (.slice A xs.length cap) ∧ w'.ownsRow w.heap.size 3 1 (.slice A xs.length cap) xs.length (ints L.chunkLens) ∧ Only [] w w' := by
  have hcl : L.chunkLens = xs.map fun x => (x.2.bodies.length : Int) := by unfold LogS.chunkLens; rw [h.ps, List.map_map]; rfl
  rw [hcl]
  have c3 := h.cell3
  obtain ⟨B, bc, hpv, _, _⟩ := own_form h.row
  rw [hpv] at c3
  have HB := Lib.hid h
  have HP := Lib.hid hpv
  clear hpv h hcl
  go_enter Tryz.func135, Tryz.ntmps135
  go_wp2
  go_loopw [3, 13] (fun o i wr => ∃ (k : Nat) (A : Option Addr) (cap : Nat), k ≤ xs.length ∧ i = .int .i64 k ∧ o = .slice A k cap ∧ wr.ownsRow w.heap.size 3 1 (.slice A k cap) k (ints ((xs.take k).map fun x => (x.2.bodies.length : Int))) ∧ Only [] w wr) (fun _ i _ => xs.length - (intOf i).toNat)
  case atStart => exact ⟨0, none, 0, Nat.zero_le _, rfl, rfl, World.ownsRow_nil _ _ _ _, Only.refl _ _⟩
  case round =>
    obtain ⟨k, A, cap, hk, rfl, rfl, hown, hO⟩ := hrel
    by_cases hlt : k < xs.length
    · obtain ⟨g, cp, hg, hgl, g0, g1, g2⟩ := HB.out.at hlt
      have hsl := (HB.out.part xs[k] (List.getElem_mem _)).1
      have hsu : (xs.take (k + 1)).map (fun x => (x.2.bodies.length : Int)) = (xs.take k).map (fun x => (x.2.bodies.length : Int)) ++ [(xs[k].2.bodies.length : Int)] := by
        rw [List.take_succ_eq_append_getElem hlt, List.map_append]; rfl
      obtain ⟨x, hx⟩ : ∃ x, xs[k] = x := ⟨_, rfl⟩
      rw [hx] at g0 g1 g2 hsl hsu
      have hgg := HP.out.symm.trans hg
      injection hgg with hgg
      subst hgg
      obtain ⟨VA, vc, hV⟩ := slc_len hsl
      rw [hV] at g0
      have e0 := (hO.cell (p := ⟨g, k * 3, none⟩) hgl (by simp)).trans g0
      have e1 := (hO.cell (p := ⟨g, k * 3 + 1, none⟩) hgl (by simp)).trans g1
      have e2 := (hO.cell (p := ⟨g, k * 3 + 2, none⟩) hgl (by simp)).trans g2
      have hdec : decide ((k : Int) < (xs.length : Int)) = true := decide_eq_true (by omega)
      have hml : (((xs.take k).map fun x => (x.2.bodies.length : Int))).length = k := by simp; omega
      have hown2 : ∀ o : Obj, (wr.alloc o).ownsRow w.heap.size 3 1 (.slice A ((xs.take k).map fun x => (x.2.bodies.length : Int)).length cap) ((xs.take k).map fun x => (x.2.bodies.length : Int)).length (ints ((xs.take k).map fun x => (x.2.bodies.length : Int))) := fun o => by rw [hml]; exact hown.alloc o
      have hsz := hO.size
      obtain ⟨A4, c4, w4, hr4, hown4, hO4⟩ := app1i (hown2 (.cells #[.slice VA x.2.bodies.length vc, .int .i64 x.2.used, .bool x.2.done] 236)) (by simp; omega) (by omega) (x.2.bodies.length : Int)
      rw [hml, show (wr.alloc (.cells #[.slice VA x.2.bodies.length vc, .int .i64 x.2.used, .bool x.2.done] 236)).heap.size = wr.heap.size + 1 by simp] at hr4
      have hO5 : Only [] w w4 := ((hO.alloc _).alloc _).step hO4 (fun g hg => .inr (by have h9 := (hown.lt g (by rw [← hml]; simpa using hg)).1; exact h9))
      have hml2 : ((xs.take k).map (fun x => (x.2.bodies.length : Int)) ++ [(x.2.bodies.length : Int)]).length = k + 1 := by rw [List.length_append, hml]; rfl
      rw [hml2] at hown4
      have HR4 := Lib.hid hr4
      have HW4 := Lib.hid hown4
      have HS := Lib.hid hsu
      have HL := Lib.hid hlt
      clear g0 g1 g2 hown2 hg hown hown4 hr4 hO4 hml hml2 hsu
      go_wp2_with (at_builtin; refine Lib.wpList_append_run _ rfl (.tmp 17) (.tmp 21) 48 48 rfl _ _ rfl rfl _ _ HR4.out ?_)
      refine ⟨⟨.slice A4 (k + 1) c4, _, .int .i64 ((k : Int) + 1), ⟨k + 1, HL.out, by simp, A4, c4, rfl, ?_⟩, rfl, rfl, rfl⟩, by have := HL.out; simp [intOf]; omega⟩
      rw [← List.map_take, HS.out]
      exact HW4.out
    · have hke : k = xs.length := by omega
      subst hke
      go_wp2
      go_ret
      refine ⟨A, cap, rfl, ?_, hO⟩
      rw [List.take_length] at hown
      exact hown
theorem sum_take_le (l : List PartL) (k : Nat) : ((l.take k).map fun p => (p.bodies.length : Int)).sum ≤ (l.map fun p => (p.bodies.length : Int)).sum ∧ 0 ≤ ((l.take k).map fun p => (p.bodies.length : Int)).sum := by
  induction l generalizing k with
  | nil => simp
  | cons p l ih =>
    cases k with
    | zero =>
      have := ih 0
      simp only [List.take_zero, List.map_nil, List.sum_nil, List.map_cons, List.sum_cons] at this ⊢
      omega
    | succ k =>
      have := ih k
      simp only [List.take_succ_cons, List.map_cons, List.sum_cons] at this ⊢
      omega
theorem sum_take_succ (l : List PartL) {k : Nat} (hk : k < l.length) : ((l.take (k + 1)).map fun p => (p.bodies.length : Int)).sum = ((l.take k).map fun p => (p.bodies.length : Int)).sum + (l[k].bodies.length : Int) := by
  rw [List.take_succ_eq_append_getElem hk, List.map_append, List.sum_append_int]
  simp
set_option maxRecDepth 100000 in
set_option maxHeartbeats 2000000 in
theorem jlen_any (h : LogAt a w lb db mb d L kv pv xs) (hn : xs.length ≤ 1000000) (hl : L.len ≤ 1000000000) :
    Calls Tryz.prog 92 #[.pointer (some ⟨lb, 0, none⟩)] w fun e w' => e = .returned (.int .i64 L.len) ∧ Only [] w w' := by
  have HC := Lib.hid (jchunkL_any h hn)
  have hps : L.ps.length = xs.length := by rw [h.ps, List.length_map]
  have hcl : L.chunkLens.length = xs.length := by unfold LogS.chunkLens; rw [List.length_map, hps]
  unfold LogS.len at hl ⊢
  have hu : L.chunkLens = L.ps.map fun p => (p.bodies.length : Int) := rfl
  rw [hu] at hcl HC
  clear hu h
  obtain ⟨ps, hpe⟩ : ∃ ps, L.ps = ps := ⟨_, rfl⟩
  rw [hpe] at hl hps hcl HC ⊢
  clear hpe
  go_enter Tryz.func92, Tryz.ntmps92
  go_wp2_with (go_at_call 135; refine HC.out.mono ?_; rintro e1 w1 ⟨A, cap, rfl, hown, k1⟩; have hS := Lib.hid (Slc.of_own hown).1; clear hown)
  rw [← hcl] at hS
  go_loop [3, 9] (fun n i => ∃ k : Nat, k ≤ ps.length ∧ i = .int .i64 k ∧ n = .int .i64 (((ps.take k).map fun p => (p.bodies.length : Int)).sum)) (fun _ i => ps.length - (intOf i).toNat)
  case atStart => exact ⟨0, Nat.zero_le _, rfl, rfl⟩
  case round =>
    obtain ⟨k, hk, rfl, rfl⟩ := hrel
    obtain ⟨VA, vc, hv, -, -, hvc⟩ := hS.out.openI
    injection hv with hv1 hv2 hv3
    subst hv1 hv3
    have hb1 := sum_take_le ps k
    by_cases hlt : k < ps.length
    · have hb2 := sum_take_le ps (k + 1)
      rw [sum_take_succ ps hlt] at hb2
      obtain ⟨b, off, rfl, hbl, hbc⟩ := hvc k (by rw [List.length_map]; exact hlt)
      rw [List.getElem_map] at hbc
      have hsz : (Lib.hid (sum_take_succ ps hlt)).out = (Lib.hid (sum_take_succ ps hlt)).out := rfl
      have HS2 := Lib.hid (sum_take_succ ps hlt)
      have hdec : decide ((k : Int) < (xs.length : Int)) = true := decide_eq_true (by omega)
      obtain ⟨s, hs⟩ : ∃ s, ((ps.take k).map fun p => (p.bodies.length : Int)).sum = s := ⟨_, rfl⟩
      rw [hs] at hb1 hb2 HS2 ⊢
      have e1 := IntWalk.i64_in (s + (ps[k].bodies.length : Int)) ⟨by omega, by omega⟩
      clear hs hsz hvc
      go_wp2
      refine ⟨⟨k + 1, hlt, by simp, by rw [HS2.out]⟩, by simp [intOf]; omega⟩
    · have hke : k = ps.length := by omega
      subst hke
      have hdec : decide ((ps.length : Int) < (xs.length : Int)) = false := decide_eq_false (by omega)
      rw [List.take_length]
      go_wp2
      go_ret
      exact ⟨rfl, k1⟩
end
end Go.Proofs.YteinoiicnmemhaaGreatDoor.J
/- A log in memory: one cell of a part is set. -/
set_option linter.unusedVariables false
set_option linter.unusedSimpArgs false
namespace Go.Proofs.YteinoiicnmemhaaGreatDoor.J
open Go Go.RowKit Go.Sort
section
variable {a w w1 w' : World} {lb db mb M : Nat} {d : DS} {L : LogS} {kv pv : Value} {xs : List (Value × PartL)}
end
end Go.Proofs.YteinoiicnmemhaaGreatDoor.J
/- Contracts: a log's last chunk is made last (chunklog sync, Sync). -/
set_option linter.unusedVariables false
set_option linter.unusedSimpArgs false
namespace Go.Proofs.YteinoiicnmemhaaGreatDoor.J
open Go Go.RowKit Go.Sort
section
variable {a w w1 w' : World} {lb db mb M : Nat} {d : DS} {L : LogS} {kv pv : Value} {xs : List (Value × PartL)}
end
end Go.Proofs.YteinoiicnmemhaaGreatDoor.J
/- How far a call of a log has come; a part is put behind the others. -/
set_option linter.unusedVariables false
set_option linter.unusedSimpArgs false
namespace Go.Proofs.YteinoiicnmemhaaGreatDoor.J
open Go Go.RowKit Go.Sort
structure LogOn (a : World) (R : List Nat) (w W : World) (lb db mb : Nat) (d : DS) (L : LogS) (kv pv : Value) (xs : List (Value × PartL)) : Prop where
  at_ : LogAt a W lb db mb d L kv pv xs
  only : Only R w W
  sub : ∀ g ∈ lblk lb db mb kv pv xs, g ∈ R ∨ w.heap.size ≤ g
section
variable {a w W W' w' : World} {lb db mb M : Nat} {d d' : DS} {L L' : LogS} {kv pv kv' pv' : Value} {xs xs' : List (Value × PartL)} {R S : List Nat}
theorem LogOn.refl (h : LogAt a w lb db mb d L kv pv xs) : LogOn a (lblk lb db mb kv pv xs) w w lb db mb d L kv pv xs := ⟨h, Only.refl _ _, fun g hg => .inl hg⟩
theorem LogOn.only0 (h : LogOn a R w W lb db mb d L kv pv xs) (k : Only [] W W') : LogOn a R w W' lb db mb d L kv pv xs := ⟨h.at_.only0 k, h.only.trans k.of_nil, h.sub⟩
theorem LogOn.next {r : LogS × DS} (h : LogOn a R w W lb db mb d L kv pv xs) (k : LTo a lb db mb (lblk lb db mb kv pv xs) W w' r) : ∃ kv' pv' xs', LogOn a R w w' lb db mb r.2 r.1 kv' pv' xs' := by
  obtain ⟨R2, ⟨kv', pv', xs', h1, rfl⟩, h2, h3⟩ := k
  have hs := h.only.size
  exact ⟨kv', pv', xs', h1, h.only.step h2 h.sub, fun g hg => (h3 g hg).elim (h.sub g) (fun q => .inr (by omega))⟩
theorem LTo.on {r : LogS × DS} (k : LTo a lb db mb R w w' r) : ∃ kv' pv' xs', LogOn a R w w' lb db mb r.2 r.1 kv' pv' xs' := by
  obtain ⟨R2, ⟨kv', pv', xs', h1, rfl⟩, h2, h3⟩ := k
  exact ⟨kv', pv', xs', h1, h2, h3⟩
theorem LogOn.turn (h : LogOn a R w W lb db mb d L kv pv xs) (k : LogAt a w' lb db mb d' L' kv' pv' xs') (ko : Only S W w') (hS : ∀ g ∈ S, g ∈ lblk lb db mb kv pv xs) (hb : ∀ g ∈ lblk lb db mb kv' pv' xs', g ∈ lblk lb db mb kv pv xs ∨ W.heap.size ≤ g) : LogOn a R w w' lb db mb d' L' kv' pv' xs' := by
  have hs := h.only.size
  exact ⟨k, h.only.step ko (fun i hi => h.sub i (hS i hi)), fun g hg => (hb g hg).elim (h.sub g) (fun q => .inr (by omega))⟩
theorem LogOn.to {r : LogS × DS} (h : LogOn a R w W lb db mb d L kv pv xs) (k : LogTo a lb db mb W kv pv xs w' r) : ∃ kv', LogOn a R w w' lb db mb r.2 r.1 kv' pv xs := by
  obtain ⟨kv', h1, h2, h3⟩ := k
  refine ⟨kv', h.turn h1 h3 (fun g hg => ?_) (fun g hg => ?_)⟩
  · refine mem_lblk.2 ?_
    simp only [List.mem_cons, List.not_mem_nil, or_false] at hg
    rcases hg with e | e | e
    · exact .inl e
    · exact .inr (.inl e)
    · exact .inr (.inr (.inl e))
  · rcases mem_lblk.1 hg with e | e | e | ⟨v, hv, hq⟩
    · exact .inl (mem_lblk.2 (.inl e))
    · exact .inl (mem_lblk.2 (.inr (.inl e)))
    · exact .inl (mem_lblk.2 (.inr (.inr (.inl e))))
    · rcases List.mem_cons.1 hv with e | hv
      · subst e
        rcases h2 g hq with q | q
        · exact .inl (mem_lblk.2 (.inr (.inr (.inr ⟨kv, by simp, q⟩))))
        · exact .inr q
      · exact .inl (mem_lblk.2 (.inr (.inr (.inr ⟨v, List.mem_cons_of_mem _ hv, hq⟩))))
/-- A part is put behind the others. -/
theorem LogOn.add {pv2 : Value} {y : Value × PartL} (h : LogOn a R w W lb db mb d L kv pv xs) (k : Only pv.ownBlock.toList W w')
    (hr : w'.ownsRow 0 236 3 pv2 (xs.length + 1) (xs.flatMap partCells ++ partCells y)) (hf : ∀ g, pv2.ownBlock = some g → pv.ownBlock = some g ∨ W.heap.size ≤ g)
    (hv : Slc w' 1 y.1 y.2.bodies.length (strs y.2.bodies)) (hg : y.2.done = true ∨ Grows w' y.1 y.2.bodies)
    (hy : ∀ g, y.1.ownBlock = some g → (∀ v ∈ kv :: pv :: xs.map (·.1), v.ownBlock ≠ some g) ∧ pv2.ownBlock ≠ some g ∧ g ≠ lb ∧ g ≠ db ∧ g ≠ mb ∧ g < w'.heap.size ∧ a.heap.size ≤ g) (hyR : ∀ g, y.1.ownBlock = some g → w.heap.size ≤ g) :
    LogOn a R w (w'.setCell ⟨lb, 3, none⟩ pv2) lb db mb d { L with ps := L.ps ++ [y.2] } kv pv2 (xs ++ [y]) := by
  have hlb : ∀ v ∈ kv :: pv :: xs.map (·.1), ∀ g, v.ownBlock = some g → g ≠ lb := fun v hv g hg => (h.at_.away v hv g hg).1
  have hpl : lb ∉ pv.ownBlock.toList := fun hq => hlb pv (by simp) lb (by simpa using hq) rfl
  have k2 : Only [lb] w' (w'.setCell ⟨lb, 3, none⟩ pv2) := (Only.refl _ _).setCell (.inl (by simp)) _
  have k3 : Only (lb :: pv.ownBlock.toList) W (w'.setCell ⟨lb, 3, none⟩ pv2) := (k.mono (fun g hg => List.mem_cons_of_mem _ hg)).trans (k2.mono (fun g hg => by rw [List.mem_singleton.1 hg]; exact List.mem_cons_self ..))
  have hpv2 : ∀ g, pv2.ownBlock = some g → g ∉ [lb] := fun g hg hm => by
    rw [List.mem_singleton.1 hm] at hg
    rcases hf lb hg with q | q
    · exact hlb pv (by simp) lb q rfl
    · have := h.at_.lt.1; omega
  have hyl : ∀ g, y.1.ownBlock = some g → g ∉ [lb] := fun g hg hm => (hy g hg).2.2.1 (List.mem_singleton.1 hm)
  have hs := h.only.size
  refine ⟨LogAt.add h.at_ k3 rfl ?_ (own_only hr k2 hpv2) hf (hv.only k2 hyl) (hg.imp id (fun q => q.only k2 hyl)) (fun g hg => ?_), h.only.step k3 (fun g hg => h.sub g ?_), fun g hg => ?_⟩
  · exact (k.blk h.at_.blk hpl).set 3 pv2
  · obtain ⟨q1, q2, q3, q4, q5, q6, q7⟩ := hy g hg
    exact ⟨q1, q2, q3, q4, q5, by have := k2.size; omega, q7⟩
  · refine mem_lblk.2 ?_
    rcases List.mem_cons.1 hg with e | e
    · exact .inl e
    · exact .inr (.inr (.inr ⟨pv, by simp, by simpa using e⟩))
  · rcases mem_lblk.1 hg with e | e | e | ⟨v, hv, hq⟩
    · exact h.sub g (mem_lblk.2 (.inl e))
    · exact h.sub g (mem_lblk.2 (.inr (.inl e)))
    · exact h.sub g (mem_lblk.2 (.inr (.inr (.inl e))))
    · rcases List.mem_cons.1 hv with e | hv
      · exact h.sub g (mem_lblk.2 (.inr (.inr (.inr ⟨v, by simp [e], hq⟩))))
      · rcases List.mem_cons.1 hv with e | hv
        · subst e
          rcases hf g hq with q | q
          · exact h.sub g (mem_lblk.2 (.inr (.inr (.inr ⟨pv, by simp, q⟩))))
          · exact .inr (by omega)
        · rw [List.map_append] at hv
          rcases List.mem_append.1 hv with hv | hv
          · exact h.sub g (mem_lblk.2 (.inr (.inr (.inr ⟨v, List.mem_cons_of_mem _ (List.mem_cons_of_mem _ hv), hq⟩))))
          · rw [show v = y.1 by simpa using hv] at hq
            exact .inr (hyR g hq)
end
end Go.Proofs.YteinoiicnmemhaaGreatDoor.J
/- Contracts: there is a chunk that has room for a record (chunklog next). -/
set_option linter.unusedVariables false
set_option linter.unusedSimpArgs false
namespace Go.Proofs.YteinoiicnmemhaaGreatDoor.J
open Go Go.RowKit Go.Sort
section
variable {a w w1 w' : World} {lb db mb M : Nat} {d : DS} {L : LogS} {kv pv : Value} {xs : List (Value × PartL)}
theorem LogAt.cell1 (h : LogAt a w lb db mb d L kv pv xs) : w.cell? ⟨lb, 1, none⟩ = some (.string L.pre) := h.blk.cell 1
theorem LogAt.cell4 (h : LogAt a w lb db mb d L kv pv xs) : w.cell? ⟨lb, 4, none⟩ = some (.int .i64 L.synced) := h.blk.cell 4
end
end Go.Proofs.YteinoiicnmemhaaGreatDoor.J
/- Contracts: there is a chunk that has room for a record (chunklog next), all ways. -/
set_option linter.unusedVariables false
set_option linter.unusedSimpArgs false
namespace Go.Proofs.YteinoiicnmemhaaGreatDoor.J
open Go Go.RowKit Go.Sort
section
variable {a w w1 w' : World} {lb db mb M : Nat} {d : DS} {L : LogS} {kv pv : Value} {xs : List (Value × PartL)}
theorem next_some (L : LogS) (d : DS) (body : ByteArray) {p : PartL} (hp : L.ps.getLast? = some p) : L.next d body = if p.done then L.fresh d else if (body.size : Int) ≤ roomC L.size p.used then (0, L, d) else
    if (L.file d (L.ps.length - 1) (finE (L.ps.length - 1) p.bodies.length).1).1 ≠ 0 then L.file d (L.ps.length - 1) (finE (L.ps.length - 1) p.bodies.length).1 else
      if (((L.file d (L.ps.length - 1) (finE (L.ps.length - 1) p.bodies.length).1).2.1.setPart (L.ps.length - 1) { p with done := true }).sync (L.file d (L.ps.length - 1) (finE (L.ps.length - 1) p.bodies.length).1).2.2).1 ≠ 0 then
        ((L.file d (L.ps.length - 1) (finE (L.ps.length - 1) p.bodies.length).1).2.1.setPart (L.ps.length - 1) { p with done := true }).sync (L.file d (L.ps.length - 1) (finE (L.ps.length - 1) p.bodies.length).1).2.2
      else (((L.file d (L.ps.length - 1) (finE (L.ps.length - 1) p.bodies.length).1).2.1.setPart (L.ps.length - 1) { p with done := true }).sync (L.file d (L.ps.length - 1) (finE (L.ps.length - 1) p.bodies.length).1).2.2).2.1.fresh
        (((L.file d (L.ps.length - 1) (finE (L.ps.length - 1) p.bodies.length).1).2.1.setPart (L.ps.length - 1) { p with done := true }).sync (L.file d (L.ps.length - 1) (finE (L.ps.length - 1) p.bodies.length).1).2.2).2.2 := by
  unfold LogS.next
  rw [hp]
theorem LogAt.last (h : LogAt a w lb db mb d L kv pv xs) {m : Nat} (hm : xs.length = m + 1) : ∃ x, xs[m]? = some x ∧ L.ps.getLast? = some x.2 ∧ x ∈ xs := by
  have hl : m < xs.length := by omega
  refine ⟨xs[m], List.getElem?_eq_getElem hl, ?_, List.getElem_mem hl⟩
  rw [h.ps, List.getLast?_eq_getElem?, List.length_map, show xs.length - 1 = m by omega, List.getElem?_map, List.getElem?_eq_getElem hl]
  rfl
end
end Go.Proofs.YteinoiicnmemhaaGreatDoor.J
/- Contracts: there is a chunk that has room for a record (chunklog next): the last one is finished; all ways. -/
set_option linter.unusedVariables false
set_option linter.unusedSimpArgs false
namespace Go.Proofs.YteinoiicnmemhaaGreatDoor.J
open Go Go.RowKit Go.Sort
section
variable {a w w1 w' : World} {lb db mb M : Nat} {d : DS} {L : LogS} {kv pv : Value} {xs : List (Value × PartL)}
theorem len_setDone {L : LogS} {k : Nat} {p : PartL} (h : L.ps[k]? = some p) (b : Bool) : (L.setPart k { p with done := b }).len = L.len := by
  obtain ⟨hk, he⟩ := List.getElem?_eq_some_iff.1 h
  unfold LogS.len LogS.setPart
  dsimp only
  rw [List.map_set]
  congr 1
  refine List.ext_getElem? fun i => ?_
  rw [List.getElem?_set]
  split
  · rename_i e
    subst e
    rw [if_pos (by simpa using hk), List.getElem?_map, h]
    rfl
  · rfl
end
end Go.Proofs.YteinoiicnmemhaaGreatDoor.J
/- Logs, plain: the numbers of a log and of its disk stay small. No program is named. -/
set_option linter.unusedVariables false
set_option linter.unusedSimpArgs false
namespace Go.Proofs.YteinoiicnmemhaaGreatDoor.J
open Go.RowKit
structure LogS.SmN (L : LogS) (N : Nat) : Prop where
  pre : L.pre.size ≤ 1000
  size : L.size ≤ 1000000000
  few : L.ps.length ≤ N
  len : L.len ≤ N
  used : ∀ p ∈ L.ps, 0 ≤ p.used ∧ p.used ≤ N
/-- The same parts. -/
def LogS.PsEq (L L' : LogS) : Prop := L'.ps = L.ps ∧ L'.pre = L.pre ∧ L'.size = L.size
section
variable {L L' L'' : LogS} {d : DS} {N M : Nat}
theorem LogS.SmN.mono {N' : Nat} (h : L.SmN N) (hN : N ≤ N') : L.SmN N' := ⟨h.pre, h.size, Nat.le_trans h.few hN, by have := h.len; omega, fun p hp => by have := h.used p hp; omega⟩
theorem LogS.PsEq.refl (L : LogS) : L.PsEq L := ⟨rfl, rfl, rfl⟩
theorem LogS.PsEq.trans (h : LogS.PsEq L L') (k : LogS.PsEq L' L'') : LogS.PsEq L L'' := ⟨k.1.trans h.1, k.2.1.trans h.2.1, k.2.2.trans h.2.2⟩
theorem LogS.SmN.eq (h : L.SmN N) (k : LogS.PsEq L L') : L'.SmN N := by
  obtain ⟨k1, k2, k3⟩ := k
  refine ⟨by rw [k2]; exact h.pre, by rw [k3]; exact h.size, by rw [k1]; exact h.few, ?_, by rw [k1]; exact h.used⟩
  unfold LogS.len
  rw [k1]
  exact h.len
theorem LogS.told_eq (L : LogS) (e : Int) : L.PsEq (L.told e) := ⟨(LogS.told_ps L e).1, (LogS.told_ps L e).2.1, (LogS.told_ps L e).2.2.1⟩
theorem LogS.file_eq (L : LogS) (d : DS) (k : Int) (b : List UInt8) : L.PsEq (L.file d k b).2.1 := LogS.told_eq _ _
theorem LogS.sync_eq (L : LogS) (d : DS) : L.PsEq (L.sync d).2.1 := by
  unfold LogS.sync
  split
  · exact LogS.PsEq.refl L
  · dsimp only
    split
    · exact LogS.told_eq _ _
    · exact LogS.told_eq L _
theorem len_add (l : List PartL) (p : PartL) : ((l ++ [p]).map fun p => (p.bodies.length : Int)).sum = (l.map fun p => (p.bodies.length : Int)).sum + (p.bodies.length : Int) := by
  rw [List.map_append, List.sum_append_int]
  simp
theorem LogS.SmN.add (h : L.SmN N) (k : L'.ps = L.ps ++ [PartL.zero] ∧ L'.pre = L.pre ∧ L'.size = L.size) : L'.SmN (N + 1) := by
  obtain ⟨k1, k2, k3⟩ := k
  refine ⟨by rw [k2]; exact h.pre, by rw [k3]; exact h.size, ?_, ?_, ?_⟩
  · rw [k1, List.length_append]
    have := h.few
    simpa using this
  · have := h.len
    unfold LogS.len at this ⊢
    rw [k1, len_add]
    show _ + (0 : Int) ≤ _
    omega
  · rw [k1]
    intro p hp
    rcases List.mem_append.1 hp with hp | hp
    · have := h.used p hp
      omega
    · rw [List.mem_singleton.1 hp]
      show (0 : Int) ≤ 0 ∧ (0 : Int) ≤ _
      omega
/-- What fresh leaves. -/
theorem LogS.fresh_eq (L : LogS) (d : DS) : ((L.fresh d).1 ≠ 0 ∧ L.PsEq (L.fresh d).2.1) ∨ ((L.fresh d).1 = 0 ∧ (L.fresh d).2.1.ps = L.ps ++ [PartL.zero] ∧ (L.fresh d).2.1.pre = L.pre ∧ (L.fresh d).2.1.size = L.size) := by
  unfold LogS.fresh
  dsimp only
  have hf := LogS.file_eq L d L.ps.length (startE L.ps.length L.size).1
  split
  · exact .inl ⟨by show (20 : Int) ≠ 0; decide, LogS.PsEq.refl L⟩
  · split
    · exact .inl ⟨by assumption, hf⟩
    · exact .inr ⟨rfl, by dsimp only; rw [hf.1], hf.2.1, hf.2.2⟩
/-- What next leaves: the same parts, or the last one done, or a part more. -/
theorem LogS.next_eq (L : LogS) (d : DS) (body : ByteArray) : ∃ L1 : LogS, (L.PsEq L1 ∨ ∃ (k : Nat) (p : PartL), L.ps[k]? = some p ∧ L.ps.length = k + 1 ∧ L1.ps = L.ps.set k { p with done := true } ∧ L1.pre = L.pre ∧ L1.size = L.size) ∧
    (((L.next d body).1 ≠ 0 ∧ L1.PsEq (L.next d body).2.1) ∨ ((L.next d body).1 = 0 ∧ L.next d body = (0, L, d) ∧ L1 = L ∧ ∃ p, L.ps.getLast? = some p ∧ p.done = false) ∨ ((L.next d body).1 = 0 ∧ (L.next d body).2.1.ps = L1.ps ++ [PartL.zero] ∧ (L.next d body).2.1.pre = L1.pre ∧ (L.next d body).2.1.size = L1.size)) := by
  have fr : ∀ (L1 : LogS) (d1 : DS), L.next d body = L1.fresh d1 → ((L.next d body).1 ≠ 0 ∧ L1.PsEq (L.next d body).2.1) ∨ ((L.next d body).1 = 0 ∧ L.next d body = (0, L, d) ∧ L1 = L ∧ ∃ p, L.ps.getLast? = some p ∧ p.done = false) ∨ ((L.next d body).1 = 0 ∧ (L.next d body).2.1.ps = L1.ps ++ [PartL.zero] ∧ (L.next d body).2.1.pre = L1.pre ∧ (L.next d body).2.1.size = L1.size) := fun L1 d1 e => by
    rw [e]
    rcases L1.fresh_eq d1 with q | q
    · exact .inl q
    · exact .inr (.inr q)
  cases hl : L.ps.getLast? with
  | none =>
    refine ⟨L, .inl (LogS.PsEq.refl L), ?_⟩
    have := fr L d (by unfold LogS.next; rw [hl])
    rw [hl] at this
    exact this
  | some p =>
    have hnx := next_some L d body hl
    cases hd : p.done with
    | true =>
      rw [if_pos hd] at hnx
      have := fr L d hnx
      rw [hl] at this
      exact ⟨L, .inl (LogS.PsEq.refl L), this⟩
    | false =>
      rw [if_neg (by simp [hd])] at hnx
      by_cases hf : (body.size : Int) ≤ roomC L.size p.used
      · rw [if_pos hf] at hnx
        exact ⟨L, .inl (LogS.PsEq.refl L), .inr (.inl ⟨by rw [hnx], hnx, rfl, p, rfl, hd⟩)⟩
      · rw [if_neg hf] at hnx
        have hne : L.ps ≠ [] := fun e => by rw [e] at hl; cases hl
        obtain ⟨k, hk⟩ : ∃ k, L.ps.length = k + 1 := ⟨L.ps.length - 1, by have := List.length_pos_iff.2 hne; omega⟩
        have hkp : L.ps[k]? = some p := by rw [← hl, List.getLast?_eq_getElem?, hk]; rfl
        have hfe := LogS.file_eq L d (L.ps.length - 1) (finE (L.ps.length - 1) p.bodies.length).1
        obtain ⟨r, hr⟩ : ∃ r, L.file d (L.ps.length - 1) (finE (L.ps.length - 1) p.bodies.length).1 = r := ⟨_, rfl⟩
        rw [hr] at hnx hfe
        by_cases h1 : r.1 ≠ 0
        · rw [if_pos h1] at hnx
          refine ⟨L, .inl (LogS.PsEq.refl L), .inl ?_⟩
          rw [hnx]
          exact ⟨h1, hfe⟩
        · rw [if_neg h1] at hnx
          have hse := LogS.sync_eq (r.2.1.setPart (L.ps.length - 1) { p with done := true }) r.2.2
          obtain ⟨s, hs⟩ : ∃ s, (r.2.1.setPart (L.ps.length - 1) { p with done := true }).sync r.2.2 = s := ⟨_, rfl⟩
          rw [hs] at hnx hse
          have hL1 : L.PsEq s.2.1 ∨ ∃ (k : Nat) (p : PartL), L.ps[k]? = some p ∧ L.ps.length = k + 1 ∧ s.2.1.ps = L.ps.set k { p with done := true } ∧ s.2.1.pre = L.pre ∧ s.2.1.size = L.size := by
            refine .inr ⟨k, p, hkp, hk, ?_, hse.2.1.trans hfe.2.1, hse.2.2.trans hfe.2.2⟩
            rw [hse.1]
            show r.2.1.ps.set (L.ps.length - 1) _ = _
            rw [hfe.1, hk]
            rfl
          by_cases h2 : s.1 ≠ 0
          · rw [if_pos h2] at hnx
            refine ⟨s.2.1, hL1, .inl ?_⟩
            rw [hnx]
            exact ⟨h2, LogS.PsEq.refl _⟩
          · rw [if_neg h2] at hnx
            have := fr s.2.1 s.2.2 hnx
            rw [hl] at this
            exact ⟨s.2.1, hL1, this⟩
theorem LogS.SmN.set (h : L.SmN N) {k : Nat} {p : PartL} (hp : L.ps[k]? = some p) (b : Bool) (k1 : L'.ps = L.ps.set k { p with done := b } ∧ L'.pre = L.pre ∧ L'.size = L.size) : L'.SmN N := by
  obtain ⟨k1, k2, k3⟩ := k1
  have hl := len_setDone hp b
  refine ⟨by rw [k2]; exact h.pre, by rw [k3]; exact h.size, by rw [k1, List.length_set]; exact h.few, ?_, fun q hq => ?_⟩
  · have e : L'.len = (L.setPart k { p with done := b }).len := by unfold LogS.len; rw [k1]; rfl
    rw [e, hl]
    exact h.len
  · rw [k1] at hq
    rcases List.mem_or_eq_of_mem_set hq with e | e
    · exact h.used q e
    · subst e
      exact h.used p (List.mem_of_getElem? hp)
theorem LogS.SmN.next (h : L.SmN N) (d : DS) (body : ByteArray) : (L.next d body).2.1.SmN (N + 1) := by
  obtain ⟨L1, h1, h2⟩ := L.next_eq d body
  have h3 : L1.SmN N := by
    rcases h1 with q | ⟨k, p, q1, q2, q3⟩
    · exact h.eq q
    · exact h.set q1 true q3
  rcases h2 with q | q | q
  · exact (h3.eq q.2).mono (by omega)
  · rw [q.2.1]
    exact h.mono (by omega)
  · exact h3.add q.2
/-- Behind next there is a last part that is not done. -/
theorem LogS.next_last (L : LogS) (d : DS) (body : ByteArray) (h : (L.next d body).1 = 0) : ∃ (k : Nat) (p : PartL), (L.next d body).2.1.ps.length = k + 1 ∧ (L.next d body).2.1.ps[k]? = some p ∧ p.done = false := by
  obtain ⟨L1, -, h2⟩ := L.next_eq d body
  rcases h2 with q | ⟨q, q2, q3, p, q4, q5⟩ | ⟨q, q2, -⟩
  · exact absurd h q.1
  · rw [q2]
    have hne : L.ps ≠ [] := fun e => by rw [e] at q4; cases q4
    obtain ⟨k, hk⟩ : ∃ k, L.ps.length = k + 1 := ⟨L.ps.length - 1, by have := List.length_pos_iff.2 hne; omega⟩
    exact ⟨k, p, hk, by rw [← q4, List.getLast?_eq_getElem?, hk]; rfl, q5⟩
  · refine ⟨L1.ps.length, PartL.zero, by rw [q2, List.length_append]; rfl, ?_, rfl⟩
    rw [q2, List.getElem?_append_right (Nat.le_refl _), Nat.sub_self]
    rfl
end
end Go.Proofs.YteinoiicnmemhaaGreatDoor.J
/- A log in memory: a part's bodies grow; a part is laid anew. -/
set_option linter.unusedVariables false
set_option linter.unusedSimpArgs false
namespace Go.Proofs.YteinoiicnmemhaaGreatDoor.J
open Go Go.RowKit Go.Sort
theorem flat_set01 : ∀ (xs : List (Value × PartL)) (k : Nat) (x : Value × PartL) (v : Value) (u : Int) (b : List ByteArray), xs[k]? = some x → ((xs.flatMap partCells).set (k * 3) v).set (k * 3 + 1) (.int .i64 u) = (xs.set k (v, ⟨b, u, x.2.done⟩)).flatMap partCells
  | [], k, x, v, u, b, h => by simp at h
  | y :: xs, 0, x, v, u, b, h => by
    cases h
    simp [partCells]
  | y :: xs, k + 1, x, v, u, b, h => by
    have ih := flat_set01 xs k x v u b (by simpa using h)
    rw [List.set_cons_succ, List.flatMap_cons, List.flatMap_cons, ← ih, show (k + 1) * 3 + 1 = k * 3 + 1 + 3 by omega, show (k + 1) * 3 = k * 3 + 3 by omega]
    rfl
section
variable {a w W W' w' : World} {lb db mb M : Nat} {d d' : DS} {L L' : LogS} {kv pv kv' pv' : Value} {xs xs' : List (Value × PartL)} {R S : List Nat}
/-- A part is turned: its bodies' block, the row. -/
theorem LogOn.part {g n cap j : Nat} (h : LogOn a R w W lb db mb d L kv (.slice (some ⟨g, 0, none⟩) n cap) xs) {x y : Value × PartL} (hj : xs[j]? = some x) (k : Only (g :: x.1.ownBlock.toList) W w')
    (hr : w'.ownsRow 0 236 3 (.slice (some ⟨g, 0, none⟩) n cap) xs.length ((xs.set j y).flatMap partCells)) (hv : Slc w' 1 y.1 y.2.bodies.length (strs y.2.bodies)) (hg : y.2.done = true ∨ Grows w' y.1 y.2.bodies)
    (hy : ∀ q, y.1.ownBlock = some q → (x.1.ownBlock = some q ∨ W.heap.size ≤ q) ∧ q < w'.heap.size) :
    LogOn a R w w' lb db mb d (L.setPart j y.2) kv (.slice (some ⟨g, 0, none⟩) n cap) (xs.set j y) := by
  have hxm : x ∈ xs := List.mem_of_getElem? hj
  have hin : ∀ q, x.1.ownBlock = some q → q ∈ lblk lb db mb kv (.slice (some ⟨g, 0, none⟩) n cap) xs := fun q hq => mem_lblk.2 (.inr (.inr (.inr ⟨x.1, List.mem_cons_of_mem _ (List.mem_cons_of_mem _ (List.mem_map.2 ⟨x, hxm, rfl⟩)), hq⟩)))
  refine h.turn (h.at_.turn hj k (fun q hq => ?_) rfl hr hv hg hy) k (fun q hq => ?_) (fun q hq => ?_)
  · rcases List.mem_cons.1 hq with e | e
    · subst e; exact .inl rfl
    · exact .inr (by simpa using e)
  · rcases List.mem_cons.1 hq with e | e
    · subst e
      exact mem_lblk.2 (.inr (.inr (.inr ⟨_, List.mem_cons_of_mem _ (List.mem_cons_self ..), rfl⟩)))
    · exact hin q (by simpa using e)
  · rcases mem_lblk.1 hq with e | e | e | ⟨v, hv, hgv⟩
    · exact .inl (mem_lblk.2 (.inl e))
    · exact .inl (mem_lblk.2 (.inr (.inl e)))
    · exact .inl (mem_lblk.2 (.inr (.inr (.inl e))))
    · rcases List.mem_cons.1 hv with e | hv
      · exact .inl (mem_lblk.2 (.inr (.inr (.inr ⟨v, by simp [e], hgv⟩))))
      · rcases List.mem_cons.1 hv with e | hv
        · exact .inl (mem_lblk.2 (.inr (.inr (.inr ⟨v, by simp [e], hgv⟩))))
        · obtain ⟨z, hz, e⟩ := List.mem_map.1 hv
          rcases List.mem_or_eq_of_mem_set hz with q2 | q2
          · exact .inl (mem_lblk.2 (.inr (.inr (.inr ⟨v, List.mem_cons_of_mem _ (List.mem_cons_of_mem _ (List.mem_map.2 ⟨z, q2, e⟩)), hgv⟩))))
          · subst q2
            rw [← e] at hgv
            exact (hy q hgv).1.imp (hin q) id
theorem LogAt.rowne {g n cap j : Nat} (h : LogAt a w lb db mb d L kv (.slice (some ⟨g, 0, none⟩) n cap) xs) {x : Value × PartL} (hj : xs[j]? = some x) : ∀ q, x.1.ownBlock = some q → q ≠ g := fun q hq e => by
  subst e
  exact (List.pairwise_cons.1 (List.pairwise_cons.1 h.pair).2).1 x.1 (List.mem_map.2 ⟨x, List.mem_of_getElem? hj, rfl⟩) q rfl hq
/-- A record is put behind a part's. -/
theorem LogOn.push {g n cap j : Nat} (h : LogOn a R w W lb db mb d L kv (.slice (some ⟨g, 0, none⟩) n cap) xs) (hn : n = xs.length) {x : Value × PartL} (hj : xs[j]? = some x) {v : Value} {l : List ByteArray} {u : Int} (k : Only x.1.ownBlock.toList W W')
    (hv : Slc W' 1 v l.length (strs l)) (hg : Grows W' v l) (hy : ∀ q, v.ownBlock = some q → (x.1.ownBlock = some q ∨ W.heap.size ≤ q) ∧ q < W'.heap.size) :
    LogOn a R w ((W'.setCell ⟨g, j * 3, none⟩ v).setCell ⟨g, j * 3 + 1, none⟩ (.int .i64 u)) lb db mb d (L.setPart j ⟨l, u, x.2.done⟩) kv (.slice (some ⟨g, 0, none⟩) n cap) (xs.set j (v, ⟨l, u, x.2.done⟩)) := by
  subst hn
  have hne := h.at_.rowne hj
  have k2 : Only [g] W' ((W'.setCell ⟨g, j * 3, none⟩ v).setCell ⟨g, j * 3 + 1, none⟩ (.int .i64 u)) := ((Only.refl _ _).setCell (.inl (by simp)) _).setCell (.inl (by simp)) _
  have hgl : g < W.heap.size := (h.at_.row.lt g rfl).2
  have hvg : ∀ q, v.ownBlock = some q → q ∉ [g] := fun q hq hm => by
    rw [List.mem_singleton.1 hm] at hq
    rcases (hy g hq).1 with e | e
    · exact hne g e rfl
    · omega
  refine h.part (y := (v, ⟨l, u, x.2.done⟩)) hj ((k.mono (fun q hq => List.mem_cons_of_mem _ hq)).trans (k2.mono (fun q hq => by rw [List.mem_singleton.1 hq]; exact List.mem_cons_self ..))) ?_ (hv.only k2 hvg) (.inr (hg.only k2 hvg)) (fun q hq => ⟨(hy q hq).1, ?_⟩)
  · have hr0 := own_only h.at_.row k (fun q hq hm => hne g (by cases hq; simpa using hm) rfl)
    have := ((hr0.stored (j * 3) v).1.stored (j * 3 + 1) (.int .i64 u)).1
    rw [flat_set01 xs j x v u l hj] at this
    exact this
  · have := (hy q hq).2
    have := k2.size
    omega
end
end Go.Proofs.YteinoiicnmemhaaGreatDoor.J
/- Contracts: one record is put into a log (chunklog append). -/
set_option linter.unusedVariables false
set_option linter.unusedSimpArgs false
namespace Go.Proofs.YteinoiicnmemhaaGreatDoor.J
open Go Go.RowKit Go.Sort
section
variable {a w w1 w' : World} {lb db mb M N : Nat} {d : DS} {L : LogS} {kv pv : Value} {xs : List (Value × PartL)}
theorem append1_some (L : LogS) (d : DS) (body : ByteArray) {L1 : LogS} {d1 : DS} (h : L.next d body = (0, L1, d1)) {m : Nat} {p : PartL} (hm : L1.ps.length = m + 1) (hp : L1.ps[m]? = some p) :
    L.append1 d body = if (L1.file d1 ((m : Int)) (putF (1 :: body.data.toList)).1).1 ≠ 0 then L1.file d1 (m : Int) (putF (1 :: body.data.toList)).1 else
      (0, (L1.file d1 (m : Int) (putF (1 :: body.data.toList)).1).2.1.setPart m { p with bodies := p.bodies ++ [body], used := p.used + (body.size + 13) }, (L1.file d1 (m : Int) (putF (1 :: body.data.toList)).1).2.2) := by
  unfold LogS.append1
  rw [h]
  dsimp only
  rw [if_neg (by simp), hm, show (((m + 1 : Nat) : Int) - 1) = (m : Int) by omega]
  have hps := (LogS.file_eq L1 d1 (m : Int) (putF (1 :: body.data.toList)).1).1
  have hl : (L1.file d1 (m : Int) (putF (1 :: body.data.toList)).1).2.1.ps.getLast? = some p := by
    rw [hps, List.getLast?_eq_getElem?, hm]
    exact hp
  rw [hl]
  dsimp only
  have : (L1.file d1 (m : Int) (putF (1 :: body.data.toList)).1).2.1.ps.length - 1 = m := by rw [hps, hm]; rfl
  rw [this]
theorem append1_err (L : LogS) (d : DS) (body : ByteArray) (h : (L.next d body).1 ≠ 0) : L.append1 d body = L.next d body := by
  unfold LogS.append1
  dsimp only
  rw [if_pos h]
end
end Go.Proofs.YteinoiicnmemhaaGreatDoor.J
/- Contracts: records are put into a log (chunklog Append). -/
set_option linter.unusedVariables false
set_option linter.unusedSimpArgs false
namespace Go.Proofs.YteinoiicnmemhaaGreatDoor.J
open Go Go.RowKit Go.Sort
section
variable {a w w1 w' : World} {lb db mb M N : Nat} {d : DS} {L : LogS} {kv pv : Value} {xs : List (Value × PartL)} {R : List Nat}
theorem LogS.SmN.push (h : L.SmN N) {m : Nat} {p : PartL} (hp : L.ps[m]? = some p) (body : ByteArray) : (L.setPart m { p with bodies := p.bodies ++ [body], used := p.used + (body.size + 13) }).SmN (N + body.size + 13) := by
  obtain ⟨hl, he⟩ := List.getElem?_eq_some_iff.1 hp
  refine ⟨h.pre, h.size, by show (L.ps.set m _).length ≤ _; rw [List.length_set]; have := h.few; omega, ?_, fun q hq => ?_⟩
  · have h1 := h.len
    unfold LogS.len at h1 ⊢
    show ((L.ps.set m _).map _).sum ≤ _
    have hs : ∀ (l : List PartL) (k : Nat) (hk : k < l.length) (q : PartL), ((l.set k q).map fun p => (p.bodies.length : Int)).sum + (l[k].bodies.length : Int) = (l.map fun p => (p.bodies.length : Int)).sum + (q.bodies.length : Int) := by
      intro l
      induction l with
      | nil => intro k hk; simp at hk
      | cons y l ih =>
        intro k hk q
        cases k with
        | zero => simp only [List.set_cons_zero, List.map_cons, List.sum_cons, List.getElem_cons_zero]; omega
        | succ k =>
          have := ih k (by simpa using hk) q
          simp only [List.set_cons_succ, List.map_cons, List.sum_cons, List.getElem_cons_succ]
          omega
    have h2 := hs L.ps m hl { p with bodies := p.bodies ++ [body], used := p.used + (body.size + 13) }
    rw [he] at h2
    simp only [List.length_append, List.length_cons, List.length_nil] at h2
    omega
  · rcases List.mem_or_eq_of_mem_set hq with e | e
    · have := h.used q e
      omega
    · subst e
      have := h.used p (List.mem_of_getElem? hp)
      show 0 ≤ p.used + (body.size + 13) ∧ p.used + (body.size + 13) ≤ _
      omega
theorem LogS.SmN.append1 (h : L.SmN N) (d : DS) (body : ByteArray) : (L.append1 d body).2.1.SmN (N + body.size + 100) := by
  have hn := h.next d body
  by_cases he : (L.next d body).1 = 0
  · obtain ⟨m, p, hm, hp, -⟩ := LogS.next_last L d body he
    obtain ⟨⟨e, L1, d1⟩, hq⟩ : ∃ q, L.next d body = q := ⟨_, rfl⟩
    rw [hq] at he hm hp hn
    dsimp only at he hm hp hn
    subst he
    rw [append1_some L d body hq hm hp]
    have hf := LogS.file_eq L1 d1 (m : Int) (putF (1 :: body.data.toList)).1
    split
    · exact (hn.eq hf).mono (by omega)
    · have h2 := hn.eq hf
      exact (h2.push (by rw [hf.1]; exact hp) body).mono (by omega)
  · rw [append1_err L d body he]
    exact hn.mono (by omega)
end
end Go.Proofs.YteinoiicnmemhaaGreatDoor.J
/- Contracts: how many chunks stand on the disk (chunklog chunks). -/
set_option linter.unusedVariables false
set_option linter.unusedSimpArgs false
namespace Go.Proofs.YteinoiicnmemhaaGreatDoor.J
open Go Go.RowKit Go.Sort
theorem numRet_bd (s : ByteArray) : -1000000000000000000 < (numRet s).1 ∧ (numRet s).1 < 1000000000000000000 := by
  by_cases h1 : shapeB s.data.toList = true
  · by_cases h2 : (magB s.data.toList).all digitB = true
    · have h3 : (magB s.data.toList).length ≤ 18 := by
        unfold shapeB at h1
        simp only [Bool.not_eq_true', Bool.or_eq_false_iff, decide_eq_false_iff_not] at h1
        omega
      have := valN_small h2 h3
      rw [numRet_ok h1 h2]
      dsimp only
      split <;> omega
    · rw [numRet_bad (.inr (by simpa using h2))]
      simp
  · rw [numRet_bad (.inl (by simpa using h1))]
    simp
def tailB (p s : ByteArray) : ByteArray := ⟨#[49]⟩ ++ s.extract p.size s.size
theorem chunkOf_num {p s : ByteArray} : chunkOf p s = if (numRet (tailB p s)).2 = 0 ∧ 0 ≤ (numRet (tailB p s)).1 - 1000000 ∧ nameK p ((numRet (tailB p s)).1 - 1000000) = s then some ((numRet (tailB p s)).1 - 1000000) else none := by
  have e : (tailB p s).data.toList = 49 :: s.data.toList.drop p.size := by
    unfold tailB
    rw [ByteArray.data_append, Array.toList_append, ext_drop]
    rfl
  unfold chunkOf numRet
  rw [e]
  cases numB (49 :: s.data.toList.drop p.size) with
  | none => simp
  | some v => simp
section
variable {a w w1 w' : World} {lb db mb M : Nat} {d : DS} {L : LogS} {kv pv : Value} {xs : List (Value × PartL)}
theorem pre_size {p s : ByteArray} (h : p.data.toList.isPrefixOf s.data.toList = true) : p.size ≤ s.size := by
  have := (List.isPrefixOf_iff_prefix.1 h).length_le
  simpa using this
theorem list_mem {D : DS} {p : ByteArray} (hk : Fs D.fs M) {s : ByteArray} (h : s ∈ D.list p) : p.size ≤ s.size ∧ s.size ≤ 40 := by
  unfold DS.list at h
  split at h
  · rw [List.mem_filter] at h
    refine ⟨pre_size h.2, ?_⟩
    obtain ⟨f, hf⟩ := Option.isSome_iff_exists.1 ((mem_names D s).1 h.1)
    exact hk.short _ (aget_mem hf)
  · cases h
set_option maxRecDepth 100000 in
set_option maxHeartbeats 4000000 in
theorem jchunks_any (h : LogAt a w lb db mb d L kv pv xs) (hp : L.pre.size ≤ 20) (hk : Fs d.fs M) :
    Calls Tryz.prog 131 #[.pointer (some ⟨lb, 0, none⟩)] w fun e w' => e = .returned (.tuple #[.int .i64 (L.chunks d).1, .bool (decide ((L.chunks d).2 = (L.chunks d).1 - 1))]) ∧ Only [] w w' := by
  have hmem := fun s hs => list_mem (p := L.pre) hk (s := s) hs
  have hlen : (d.list L.pre).length ≤ 200 := by
    have h1 : (d.list L.pre).length ≤ d.names.length := by
      unfold DS.list
      split
      · exact List.length_filter_le _ _
      · simp
    have h2 : d.names.length = d.fs.length := by simp [DS.names]
    have := hk.few
    omega
  have HL := Lib.hid fun (w1 : World) (k1 : Only [] w w1) => list_any (h.only0 k1).disk hk L.pre
  have d0 : ∀ W, Only [] w W → W.cell? ⟨lb, 0, none⟩ = some (.pointer (some ⟨db, 0, none⟩)) := fun W k => (h.only0 k).cell0
  have d1 : ∀ W, Only [] w W → W.cell? ⟨lb, 1, none⟩ = some (.string L.pre) := fun W k => (h.only0 k).blk.cell 1
  have e0 := Within.cell (S := []) (d0 w (Only.refl _ _)) (by simp)
  have e1 := Within.cell (S := []) (d1 w (Only.refl _ _)) (by simp)
  unfold LogS.chunks
  obtain ⟨R, hR⟩ : ∃ R, chunksGo L.pre (d.list L.pre) (0, -1) = R := ⟨_, rfl⟩
  rw [hR]
  obtain ⟨ls, hls⟩ : ∃ ls, d.list L.pre = ls := ⟨_, rfl⟩
  rw [hls] at HL hmem hlen hR
  have HR := Lib.hid hR
  have HB := Lib.hid h
  have HM := Lib.hid hmem
  have D1 := Lib.hid d1
  clear hR hls h hk hmem d0 d1
  go_enter Tryz.func131, Tryz.ntmps131
  go_wp2_with fail
  refine wp_region_in [] [0, 1, 2, 3, 4, 5, 6, 7, 10] [8, 9] [] (by kernel_rfl) (by kernel_rfl) (by intro c d u a w h; cases d <;> exact h) ?_
  show wpQuiet _ _ _ _ [_, _, _, _, _, _, _, _, _] _
  repeat (go_big_quiet_step (fail))
  refine wpQuiet_nil ?_
  show wpList _ _ _ [_] _ _
  have k0 := (Only.refl [] w).drew
  go_wp2_with (go_at_call 155; refine (HL.out _ (Only.refl [] w).drew).mono ?_; rintro e1 w1 ⟨v, rfl, hv, -, k1⟩)
  obtain ⟨VA, vc, rfl, -, -, hvc⟩ := hv.openS
  have k1 := k0.trans k1
  refine check_of (S := []) k1 ?_
  show wpList _ _ _ [_] _ _
  go_wp2_with fail
  refine check_last (S := []) k1 (fun _ _ q => q) ?_
  clear HL e0 e1
  go_wp2_with fail
  go_loopw [4, 5, 20] (fun nn ll i wr => ∃ (k : Nat) (n l : Int), k ≤ ls.length ∧ i = .int .i64 k ∧ nn = .int .i64 n ∧ ll = .int .i64 l ∧ 0 ≤ n ∧ n ≤ k ∧ -1 ≤ l ∧ l ≤ 1000000000000000000 ∧ Hid (chunksGo L.pre (ls.drop k) (n, l) = R) ∧ Only [] w1 wr) (fun _ _ i _ => ls.length - (intOf i).toNat)
  case atStart => exact ⟨0, 0, -1, Nat.zero_le _, rfl, rfl, rfl, by omega, by omega, by omega, by omega, HR, Only.refl _ _⟩
  case round =>
    obtain ⟨k, n, l, hk, rfl, rfl, rfl, hn0, hn1, hl0, hl1, hgo, hO⟩ := hrel
    by_cases hlt : k < ls.length
    · obtain ⟨b, off, rfl, hbl, hbc⟩ := hvc k hlt
      have hbc := (hO.cell (p := ⟨b, off + k, none⟩) hbl (by simp)).trans hbc
      have hgo2 := hgo.out
      rw [List.drop_eq_getElem_cons hlt, chunksGo] at hgo2
      have hme := HM.out ls[k] (List.getElem_mem hlt)
      obtain ⟨s, hs⟩ : ∃ s, ls[k] = s := ⟨_, rfl⟩
      rw [hs] at hbc hgo2 hme
      have hBw := HB.out.only0 (k1.trans hO)
      have c1 := D1.out _ (k1.trans hO)
      have hdec : decide ((k : Int) < (ls.length : Int)) = true := decide_eq_true (by omega)
      have hts : (tailB L.pre s).size ≤ 1000000 := by
        unfold tailB
        rw [ByteArray.size_append, ByteArray.size_extract]
        show 1 + _ ≤ _
        omega
      have hN := number_any (tailB L.pre s) wr hts
      have hbd := numRet_bd (tailB L.pre s)
      rw [chunkOf_num] at hgo2
      unfold tailB at hN hbd hgo2
      obtain ⟨⟨v, e⟩, hve⟩ : ∃ q, numRet (⟨#[49]⟩ ++ s.extract L.pre.size s.size) = q := ⟨_, rfl⟩
      rw [hve] at hN hbd hgo2
      dsimp only at hN hbd hgo2
      have HN := Lib.hid hN
      have HG := Lib.hid hgo2
      have e1 := IntWalk.i64_in (v - 1000000) ⟨by omega, by omega⟩
      have e2 := IntWalk.i64_in ((n : Int) + 1) ⟨by omega, by omega⟩
      have HBw := Lib.hid hBw
      have HP := Lib.hid hp
      clear hve hgo hgo2 hN hs hts hBw hp
      by_cases he : e = 0
      · subst he
        by_cases hv : v - 1000000 < 0
        · have hge : decide (v - 1000000 ≥ 0) = false := decide_eq_false (by omega)
          have HG2 : Hid (chunksGo L.pre (ls.drop (k + 1)) (n, l) = R) := by
            have := HG.out
            rw [if_neg (by omega)] at this
            exact this
          clear HG
          go_wp2_with (go_at_call 156; refine HN.out.mono ?_; rintro e3 w3 ⟨rfl, rfl⟩)
          exact ⟨⟨k + 1, n, l, hlt, by simp, rfl, rfl, hn0, by omega, hl0, hl1, HG2, hO⟩, by simp [intOf]; omega⟩
        · have hge : decide (v - 1000000 ≥ 0) = true := decide_eq_true (by omega)
          have hJ := jname_any HBw.out.blk (by have := HP.out; omega) HBw.out.tabw (v - 1000000) (by omega) (by omega)
          have hdec2 := toList_decJ (nameK L.pre (v - 1000000)) s
          obtain ⟨nm, hnm⟩ : ∃ nm, nameK L.pre (v - 1000000) = nm := ⟨_, rfl⟩
          rw [hnm] at hJ HG hdec2
          have HJ := Lib.hid hJ
          clear hJ hnm
          by_cases hq : nm = s
          · rw [decide_eq_true hq] at hdec2
            have HG2 : Hid (chunksGo L.pre (ls.drop (k + 1)) (n + 1, max l (v - 1000000)) = R) := by
              have := HG.out
              rw [if_pos ⟨rfl, by omega, hq⟩] at this
              exact this
            clear HG hq
            go_wp2_with (first | (go_at_call 156; refine HN.out.mono ?_; rintro e3 w3 ⟨rfl, rfl⟩) | (go_at_call 157; refine HJ.out.mono ?_; rintro e4 w4 ⟨rfl, k4⟩))
            exact ⟨⟨k + 1, n + 1, max l (v - 1000000), hlt, by simp, rfl, by simp, by omega, by omega, by omega, by omega, HG2, hO.trans k4⟩, by simp [intOf]; omega⟩
          · rw [decide_eq_false hq] at hdec2
            have HG2 : Hid (chunksGo L.pre (ls.drop (k + 1)) (n, l) = R) := by
              have := HG.out
              rw [if_neg (fun h => hq h.2.2)] at this
              exact this
            clear HG hq
            go_wp2_with (first | (go_at_call 156; refine HN.out.mono ?_; rintro e3 w3 ⟨rfl, rfl⟩) | (go_at_call 157; refine HJ.out.mono ?_; rintro e4 w4 ⟨rfl, k4⟩))
            exact ⟨⟨k + 1, n, l, hlt, by simp, rfl, rfl, hn0, by omega, hl0, hl1, HG2, hO.trans k4⟩, by simp [intOf]; omega⟩
      · have hne : (e == 0) = false := by simpa using he
        have HG2 : Hid (chunksGo L.pre (ls.drop (k + 1)) (n, l) = R) := by
          have := HG.out
          rw [if_neg (fun h => he h.1)] at this
          exact this
        clear HG
        go_wp2_with (go_at_call 156; refine HN.out.mono ?_; rintro e3 w3 ⟨rfl, rfl⟩)
        exact ⟨⟨k + 1, n, l, hlt, by simp, rfl, rfl, hn0, by omega, hl0, hl1, HG2, hO⟩, by simp [intOf]; omega⟩
    · have hke : k = ls.length := by omega
      subst hke
      have hRe := hgo.out
      rw [List.drop_length, chunksGo] at hRe
      subst hRe
      have e1 := IntWalk.i64_in (n - 1) ⟨by omega, by omega⟩
      have hdec : decide ((ls.length : Int) < (ls.length : Int)) = false := decide_eq_false (by omega)
      clear hgo
      go_wp2
      go_ret2
      exact ⟨by rw [← show (l == n - 1) = decide (l = n - 1) from by rw [Bool.eq_iff_iff]; simp]; rfl, k1.trans hO⟩
end
end Go.Proofs.YteinoiicnmemhaaGreatDoor.J
/- Contracts: a log is opened on a disk that has nothing of it (chunklog Open, marked). -/
set_option linter.unusedVariables false
set_option linter.unusedSimpArgs false
namespace Go.Proofs.YteinoiicnmemhaaGreatDoor.J
open Go Go.RowKit Go.Sort
section
variable {a w w1 w' : World} {lb db mb M N : Nat} {d : DS} {L : LogS} {kv pv : Value} {xs : List (Value × PartL)} {R : List Nat}
theorem LogAt.fresh (hT : Tab a) (hO : Only [] a w) (hd : DiskAt w db mb d kv) (hu : a.heap.size ≤ db ∧ a.heap.size ≤ mb) (hk : ∀ g, kv.ownBlock = some g → a.heap.size ≤ g) (p : ByteArray) (size : Int) :
    LogAt a (w.alloc (.cells (logV db (LogS.new p size) (.slice none 0 0)) 203)) w.heap.size db mb d (LogS.new p size) kv (.slice none 0 0) [] := by
  have k : Only [] w (w.alloc (.cells (logV db (LogS.new p size) (.slice none 0 0)) 203)) := (Only.refl _ _).alloc _
  have hs := hO.size
  have l1 := hd.blk.lt
  have l2 := hd.map.lt
  refine ⟨rfl, Blk.new _ _ _, hd.only k (by simp) (by simp) (by simp), World.ownsRow_nil _ _ _ _, fun x hx => (by cases hx), ?_, fun v hv g hg => ?_, hO.trans k, hT, hs, hu.1, hu.2⟩
  · refine List.pairwise_cons.2 ⟨fun v hv g hg hq => ?_, List.pairwise_singleton _ _⟩
    rw [show v = .slice none 0 0 by simpa using hv] at hq
    cases hq
  · rcases List.mem_cons.1 hv with e | hv
    · subst e
      have h1 := hd.apart g hg
      have h2 := hd.old g hg
      have h3 := k.size
      exact ⟨by omega, h1.1, h1.2, by omega, hk g hg⟩
    · rw [show v = .slice none 0 0 by simpa using hv] at hg
      cases hg
theorem jmarked1_none (h : LogAt a w lb db mb d L kv pv xs) (hp : L.pre.size ≤ 1000) (hs : (d.get (markN L.pre)).b.size ≤ 1125899906842624) (hb : (LogS.bytes d (markN L.pre)).2 = 8) :
    Calls Tryz.prog 133 #[.pointer (some ⟨lb, 0, none⟩)] w fun e w' => e = .returned (.int .i64 (L.marked1 d).1) ∧ LogTo a lb db mb w kv pv xs w' (L.marked1 d).2 := by
  have hm : L.marked1 d = (0, L, d) := by unfold LogS.marked1; dsimp only; rw [if_pos hb]
  rw [hm]
  have c1 := h.cell1
  have HG := Lib.hid (jget_any h.blk h.disk (markN L.pre) hs)
  have hn : markN L.pre = L.pre ++ ⟨#[109, 97, 114, 107]⟩ := rfl
  rw [hb, hn] at HG
  obtain ⟨bs, hbs⟩ : ∃ bs, (LogS.bytes d (L.pre ++ ⟨#[109, 97, 114, 107]⟩)).1 = bs := ⟨_, rfl⟩
  rw [hbs] at HG
  have HB := Lib.hid h
  clear h hs hb hm hn hbs
  go_enter Tryz.func133, Tryz.ntmps133
  go_wp2_with (go_at_call 158; refine HG.out.mono ?_; rintro e1 w1 ⟨rfl, k1⟩)
  go_ret
  exact ⟨rfl, LogTo.refl HB.out k1⟩
set_option maxRecDepth 100000 in
set_option maxHeartbeats 2000000 in
theorem jopen_fresh (hT : Tab a) (hO : Only [] a w) (hd : DiskAt w db mb d kv) (hu : a.heap.size ≤ db ∧ a.heap.size ≤ mb) (hkv : ∀ g, kv.ownBlock = some g → a.heap.size ≤ g) (hk : d.Ok M) (hM : M ≤ 1125899906842624)
    (p : ByteArray) (size : Int) (hp : LogS.openArg p size = true) (hdr : (LogS.drop d (newN p)).1 = 0) (hch : (LogS.new p size).chunks (LogS.drop d (newN p)).2 = (0, -1)) (hmk : (LogS.bytes (LogS.drop d (newN p)).2 (markN p)).2 = 8) :
    Calls Tryz.prog 90 #[.pointer (some ⟨db, 0, none⟩), .string p, .int .i64 size] w fun e w' => ∃ lb kv', e = .returned (.tuple #[.pointer (some ⟨lb, 0, none⟩), .int .i64 0]) ∧ LogAt a w' lb db mb (LogS.drop d (newN p)).2 (LogS.new p size) kv' (.slice none 0 0) [] ∧
      Only [db, mb] w w' ∧ w.heap.size ≤ lb ∧ (∀ g, kv'.ownBlock = some g → kv.ownBlock = some g ∨ w.heap.size ≤ g) := by
  unfold LogS.openArg at hp
  simp only [Bool.and_eq_true, decide_eq_true_eq] at hp
  obtain ⟨⟨⟨p1, p2⟩, p3⟩, p4⟩ := hp
  have q1 : decide ((p.size : Int) < 1) = false := decide_eq_false (by omega)
  have q2 : decide ((p.size : Int) > 20) = false := decide_eq_false (by omega)
  have q3 : decide (size < 100) = false := decide_eq_false (by omega)
  have q4 : decide (size > 1000000) = false := decide_eq_false (by omega)
  have HCl := Lib.hid (fun (W : World) => strClone_any p W (by omega))
  have hdo := LogS.drop_ok hk (newN p)
  have HD := Lib.hid (fun (W : World) (lb : Nat) (kv1 : Value) (h : LogAt a W lb db mb d (LogS.new p size) kv1 (.slice none 0 0) []) => jdrop_any h.blk h.disk hk hM (newN p))
  have hnn : newN p = p ++ ⟨#[110, 101, 119]⟩ := rfl
  obtain ⟨⟨e, d1⟩, hdd⟩ : ∃ q, LogS.drop d (newN p) = q := ⟨_, rfl⟩
  rw [hdd] at hdr hch hmk hdo HD ⊢
  rw [hnn] at HD
  dsimp only at hdr hch hmk hdo HD ⊢
  subst hdr
  have HC := Lib.hid (fun (W : World) (lb : Nat) (kv1 : Value) (h : LogAt a W lb db mb d1 (LogS.new p size) kv1 (.slice none 0 0) []) => jchunks_any h (by show p.size ≤ 20; omega) hdo.fs)
  rw [hch] at HC
  have HMk := Lib.hid (fun (W : World) (lb : Nat) (kv1 : Value) (h : LogAt a W lb db mb d1 (LogS.new p size) kv1 (.slice none 0 0) []) => jmarked1_none h (by show p.size ≤ 1000; omega) (by have := hdo.get_le (markN p); show (d1.get (markN p)).b.size ≤ _; omega) hmk)
  have hmm : (LogS.new p size).marked1 d1 = (0, LogS.new p size, d1) := by unfold LogS.marked1; dsimp only; rw [show (LogS.new p size).pre = p from rfl, if_pos hmk]
  rw [hmm] at HMk
  have HLn := Lib.hid (fun (W : World) (lb : Nat) (kv1 : Value) (h : LogAt a W lb db mb d1 (LogS.new p size) kv1 (.slice none 0 0) []) => jlen_any h (by simp) (by show ((([] : List PartL).map _).sum : Int) ≤ _; simp))
  have hl0 : (LogS.new p size).len = 0 := rfl
  rw [hl0] at HLn
  have HF := Lib.hid (fun (W : World) (k : Only [] w W) => LogAt.fresh hT (hO.trans k) (hd.only k (by simp) (by simp) (by simp)) hu hkv p size)
  have HX := Lib.hid hd
  clear hdd hch hmk hdo hnn hmm hl0 hd hk p1 p3 p4 hT hO hu hkv
  go_enter Tryz.func90, Tryz.ntmps90
  go_wp2_with (go_at_call 129; refine (HCl.out _).mono ?_; rintro e1 w1 ⟨rfl, k1⟩; have h2 : LogAt a (w1.alloc (.cells #[.pointer (some ⟨db, 0, none⟩), .string p, .int .i64 size, .slice none 0 0, .int .i64 0, .int .i64 0, .int .i64 0] 203)) w1.heap.size db mb d (LogS.new p size) kv (.slice none 0 0) [] := HF.out _ k1; have HA := Lib.hid h2; have c1 : World.cell? _ ⟨w1.heap.size, 1, none⟩ = some (.string p) := h2.cell1; clear h2)
  go_wp2_with fail
  refine (HD.out _ _ _ HA.out).mono ?_
  rintro e2 w2 ⟨rfl, k2⟩
  obtain ⟨kv2, h2, hf2, k2c⟩ := HA.out.leads k2
  have HA2 := Lib.hid h2
  clear k2 h2 HA c1
  go_wp2_with fail
  refine (HC.out _ _ _ HA2.out).mono ?_
  rintro e3 w3 ⟨rfl, k3⟩
  have HA3 := Lib.hid (HA2.out.only0 k3)
  go_wp2_with fail
  go_loopw [59] (fun i wr => i = .int .i64 0 ∧ wr = w3) (fun _ _ => 0)
  case atStart => exact ⟨rfl, rfl⟩
  case round =>
    obtain ⟨rfl, rfl⟩ := hrel
    go_wp2_with fail
    refine (HMk.out _ _ _ HA3.out).mono ?_
    rintro e4 w4 ⟨rfl, k4⟩
    obtain ⟨kv4, h4, hf4, k4c⟩ := k4
    have HA4 := Lib.hid h4
    clear h4
    go_wp2_with fail
    refine (HLn.out _ _ _ HA4.out).mono ?_
    rintro e5 w5 ⟨rfl, k5⟩
    have h5 := HA4.out.only0 k5
    have HA5 := Lib.hid h5
    have f4 := h5.blk.free 4
    have c4 := h5.cell4
    clear h5
    go_wp2
    go_ret2
    have ks : Only [w1.heap.size] w5 (w5.setCell ⟨w1.heap.size, 4, none⟩ (.int .i64 0)) := (Only.refl _ _).setCell (.inl (by simp)) _
    have hfin : LogAt a (w5.setCell ⟨w1.heap.size, 4, none⟩ (.int .i64 0)) w1.heap.size db mb d1 (LogS.new p size) kv4 (.slice none 0 0) [] := HA5.out.head ks (HA5.out.blk.set 4 _) rfl
    have z1 := k1.size
    have z2 := k2c.size
    have z3 := k3.size
    simp at z2
    refine ⟨w1.heap.size, kv4, rfl, hfin, ?_, z1, fun g hg => ?_⟩
    · have o1 : Only [db, mb] w w2 := ((k1.alloc _).of_nil).trans k2c
      have o2 := (o1.trans k3.of_nil).step k4c (fun i hi => by
        simp only [List.mem_cons, List.not_mem_nil, or_false] at hi ⊢
        rcases hi with e | e | e
        · exact .inr (by omega)
        · exact .inl (.inl e)
        · exact .inl (.inr e))
      exact (o2.trans k5.of_nil).setCell (.inr z1) _
    · rcases hf4 g hg with q | q
      · rcases hf2 g q with q2 | q2
        · exact .inl q2
        · right; simp at q2; omega
      · right; omega
end
end Go.Proofs.YteinoiicnmemhaaGreatDoor.J
/- Contracts: where a record stands (find), a record (Get), records from one on, forwards and backwards (Range, Back). -/
set_option linter.unusedVariables false
set_option linter.unusedSimpArgs false
namespace Go.Proofs.YteinoiicnmemhaaGreatDoor.J
open Go Go.RowKit Go.Sort
section
variable {a w w1 w' : World} {lb db mb M : Nat} {d : DS} {L : LogS} {kv pv : Value} {xs : List (Value × PartL)}
set_option maxHeartbeats 2000000 in
theorem jfind_any (h : LogAt a w lb db mb d L kv pv xs) (hn : xs.length ≤ 1000000) (n : Nat) (hlt : n < L.all.length) (hn2 : n ≤ 1000000000) :
    Calls Tryz.prog 163 #[.pointer (some ⟨lb, 0, none⟩), .int .i64 n] w fun e w' => e = .returned (.tuple #[.int .i64 (L.find n).1, .int .i64 (L.find n).2]) ∧ Only [] w w' := by
  have HC := Lib.hid (jchunkL_any h hn)
  have hps : L.ps.length = xs.length := by rw [h.ps, List.length_map]
  have hcl : L.chunkLens.length = xs.length := by unfold LogS.chunkLens; rw [List.length_map, hps]
  have hu : L.chunkLens = L.ps.map fun p => (p.bodies.length : Int) := rfl
  rw [hu] at hcl HC
  clear hu h
  unfold LogS.find
  unfold LogS.all at hlt
  obtain ⟨ps, hpe⟩ : ∃ ps, L.ps = ps := ⟨_, rfl⟩
  rw [hpe] at hlt hps hcl HC ⊢
  clear hpe
  obtain ⟨R, hR⟩ : ∃ R, LogS.findGo ps 0 n = R := ⟨_, rfl⟩
  rw [hR]
  have HR := Lib.hid hR
  clear hR
  go_enter Tryz.func163, Tryz.ntmps163
  go_wp2_with (go_at_call 135; refine HC.out.mono ?_; rintro e1 w1 ⟨A, cap, rfl, hown, k1⟩; have hS := Lib.hid (Slc.of_own hown).1; clear hown)
  rw [← hcl] at hS
  go_loop [1, 11] (fun m i => ∃ k q : Nat, k ≤ ps.length ∧ i = .int .i64 k ∧ m = .int .i64 q ∧ q ≤ n ∧ q < ((ps.drop k).flatMap (·.bodies)).length ∧ Hid (LogS.findGo (ps.drop k) k q = R)) (fun _ i => ps.length - (intOf i).toNat)
  case atStart => exact ⟨0, n, Nat.zero_le _, rfl, rfl, Nat.le_refl _, hlt, HR⟩
  case round =>
    obtain ⟨k, q, hk, rfl, rfl, hq, hql, hgo⟩ := hrel
    have hkl : k < ps.length := by
      apply Classical.byContradiction
      intro hne
      rw [List.drop_eq_nil_of_le (by omega)] at hql
      simp at hql
    obtain ⟨VA, vc, hv, -, -, hvc⟩ := hS.out.openI
    injection hv with hv1 hv2 hv3
    subst hv1 hv3
    obtain ⟨b, off, rfl, hbl, hbc⟩ := hvc k (by rw [List.length_map]; exact hkl)
    rw [List.getElem_map] at hbc
    have hg2 := hgo.out
    rw [List.drop_eq_getElem_cons hkl] at hg2 hql
    rw [LogS.findGo] at hg2
    rw [List.flatMap_cons, List.length_append] at hql
    have hdec : decide ((k : Int) < (xs.length : Int)) = true := decide_eq_true (by omega)
    obtain ⟨c, hc⟩ : ∃ c, ps[k].bodies.length = c := ⟨_, rfl⟩
    rw [hc] at hbc hg2 hql
    clear hvc hv2 hgo
    by_cases hqc : (q : Int) < (c : Int)
    · rw [if_pos hqc] at hg2
      subst hg2
      go_wp2
      go_ret2
      exact ⟨rfl, k1⟩
    · rw [if_neg hqc] at hg2
      have hcl2 : c ≤ q := by omega
      have hdec2 : decide ((q : Int) < (c : Int)) = false := decide_eq_false hqc
      have e1 := IntWalk.i64_in ((q : Int) - (c : Int)) ⟨by omega, by omega⟩
      have hsub : (q : Int) - (c : Int) = ((q - c : Nat) : Int) := by omega
      rw [hsub, show (k : Int) + 1 = ((k + 1 : Nat) : Int) by omega] at hg2
      have HG := Lib.hid hg2
      clear hg2
      go_wp2
      refine ⟨⟨k + 1, q - c, hkl, by simp, by rw [← hsub], by omega, by omega, HG⟩, by simp [intOf]; omega⟩
end
end Go.Proofs.YteinoiicnmemhaaGreatDoor.J
/- Contracts: a record (Get), records from one on, forwards and backwards (Range, Back). -/
set_option linter.unusedVariables false
set_option linter.unusedSimpArgs false
namespace Go.Proofs.YteinoiicnmemhaaGreatDoor.J
open Go Go.RowKit Go.Sort
section
variable {a w w1 w' : World} {lb db mb M : Nat} {d : DS} {L : LogS} {kv pv : Value} {xs : List (Value × PartL)}
set_option maxRecDepth 100000 in
set_option maxHeartbeats 2000000 in
theorem jrec_any (h : LogAt a w lb db mb d L kv pv xs) (hn : xs.length ≤ 1000000) (hl : L.len ≤ 1000000000) (n : Int) :
    Calls Tryz.prog 134 #[.pointer (some ⟨lb, 0, none⟩), .int .i64 n] w fun e w' => e = .returned (.tuple #[.string (L.get n).1, .int .i64 (L.get n).2]) ∧ Only [] w w' := by
  have c0 := h.cell0
  have HL := Lib.hid fun (w1 : World) (k1 : Only [] w w1) => jlen_any (h.only0 k1) hn hl
  unfold LogS.get
  by_cases h0 : n < 0
  · rw [if_pos (.inl h0)]
    have hdec : decide (n < 0) = true := decide_eq_true h0
    clear h HL
    go_enter Tryz.func134, Tryz.ntmps134
    go_wp2
    go_ret2
    exact ⟨rfl, Only.refl _ _⟩
  · have hdec : decide (n < 0) = false := decide_eq_false h0
    by_cases h1 : L.len ≤ n
    · rw [if_pos (.inr h1)]
      have hdec2 : decide (n ≥ L.len) = true := decide_eq_true h1
      clear h
      go_enter Tryz.func134, Tryz.ntmps134
      go_wp2_with (go_at_call 92; refine (HL.out _ (Only.refl _ _)).mono ?_; rintro e1 w1 ⟨rfl, k1⟩)
      go_ret2
      exact ⟨rfl, k1⟩
    · rw [if_neg (by omega)]
      have hdec2 : decide (n ≥ L.len) = false := decide_eq_false h1
      obtain ⟨m, rfl⟩ : ∃ m : Nat, n = m := ⟨n.toNat, by omega⟩
      have hla := len_all L
      have HF := Lib.hid fun (w1 : World) (k1 : Only [] w w1) => jfind_any (h.only0 k1) hn m (by omega) (by omega)
      obtain ⟨j, r, p, hf, hj, hr, -, hall⟩ := findGo_spec L.ps 0 m (show m < L.all.length by omega)
      have hfind : L.find m = ((j : Int), (r : Int)) := by
        unfold LogS.find
        have : LogS.findGo L.ps ((0 : Nat) : Int) m = _ := hf
        simpa using this
      rw [hfind] at HF
      have hall : L.all[((m : Int)).toNat]? = p.bodies[r]? := by rw [Int.toNat_natCast]; exact hall
      rw [hall, List.getElem?_eq_getElem hr]
      have hjl : j < xs.length := by
        have := (List.getElem?_eq_some_iff.1 hj).1
        rw [h.ps, List.length_map] at this
        exact this
      have hxj : xs[j].2 = p := by
        have := (List.getElem?_eq_some_iff.1 hj).2
        simp only [h.ps, List.getElem_map] at this
        exact this
      have hpart := (h.part xs[j] (List.getElem_mem _)).1
      have hat := h.at hjl
      obtain ⟨x, hx⟩ : ∃ x, xs[j] = x := ⟨_, rfl⟩
      rw [hx] at hpart hat hxj
      subst hxj
      obtain ⟨g, cap, hpv, hgl, g0, -, -⟩ := hat
      obtain ⟨VA, vc, hxv, -, -, hvc⟩ := hpart.openS
      rw [hxv] at g0
      obtain ⟨b, off, hVA, hbl, hb⟩ := hvc r hr
      subst hVA
      have c3 := h.cell3
      rw [hpv] at c3
      obtain ⟨s, hs⟩ : ∃ s, x.2.bodies[r] = s := ⟨_, rfl⟩
      rw [hs] at hb ⊢
      clear hf hfind hall hs hvc hxv hpv hpart hx hj h hla
      go_enter Tryz.func134, Tryz.ntmps134
      go_wp2_with (first
        | (go_at_call 92; refine (HL.out _ (Only.refl _ _)).mono ?_; rintro e1 w1 ⟨rfl, k1⟩; have HF2 := Lib.hid (HF.out _ k1); clear HF)
        | (go_at_call 163; refine HF2.out.mono ?_; rintro e2 w2 ⟨rfl, k2⟩
           have k3 := k1.trans k2
           have c3' := (k3.cell (p := ⟨lb, 3, none⟩) (block_lt_of_cell c3) (by simp)).trans c3
           have g0' := (k3.cell (p := ⟨g, j * 3, none⟩) hgl (by simp)).trans g0
           have hb' := (k3.cell (p := ⟨b, off + r, none⟩) hbl (by simp)).trans hb))
      go_ret2
      exact ⟨by simp, k1.trans k2⟩
set_option maxRecDepth 100000 in
set_option maxHeartbeats 2000000 in
theorem jrange_any (h : LogAt a w lb db mb d L kv pv xs) (hn : xs.length ≤ 1000000) (hl : L.len ≤ 10000000) (f most : Int) :
    Calls Tryz.prog 91 #[.pointer (some ⟨lb, 0, none⟩), .int .i64 f, .int .i64 most] w fun e w' => ∃ A cap, e = .returned (.slice A (L.range f most).length cap) ∧ w'.ownsRow w.heap.size 9 1 (.slice A (L.range f most).length cap) (L.range f most).length (strs (L.range f most)) ∧ Only [] w w' := by
  have hla := len_all L
  have HL := Lib.hid fun (w1 : World) (k1 : Only [] w w1) => jlen_any (h.only0 k1) hn (by omega)
  have HG := Lib.hid fun (w1 : World) (k1 : Only [] w w1) (n : Int) => jrec_any (h.only0 k1) hn (by omega) n
  unfold LogS.range
  clear h
  by_cases hf : f < 0
  · rw [if_pos hf]
    have hdec : decide (f ≥ 0) = false := decide_eq_false (by omega)
    go_enter Tryz.func91, Tryz.ntmps91
    go_wp2
    go_loopw [7, 8] (fun o i wr => o = .slice none 0 0 ∧ i = .int .i64 f ∧ wr = w) (fun _ _ _ => 0)
    case atStart => exact ⟨rfl, rfl, rfl⟩
    case round =>
      obtain ⟨rfl, rfl, rfl⟩ := hrel
      go_wp2
      go_ret
      exact ⟨none, 0, rfl, World.ownsRow_nil _ _ _ _, Only.refl _ _⟩
  · rw [if_neg hf]
    have hdec : decide (f ≥ 0) = true := decide_eq_true (by omega)
    obtain ⟨m, rfl⟩ : ∃ m : Nat, f = m := ⟨f.toNat, by omega⟩
    rw [Int.toNat_natCast]
    obtain ⟨T, hT⟩ : ∃ T, L.all.drop m = T := ⟨_, rfl⟩
    rw [hT]
    have hTl : T.length = L.all.length - m := by rw [← hT, List.length_drop]
    have hTg : ∀ k, k < T.length → L.get ((m + k : Nat) : Int) = (T.getD k ⟨#[]⟩, 0) := fun k hk => by
      unfold LogS.get
      rw [if_neg (by omega), Int.toNat_natCast, ← hT, List.getD_eq_getElem?_getD, List.getElem?_drop]
    have HT := Lib.hid hTg
    have HTl := Lib.hid hTl
    have hTb : T.length ≤ 10000000 := by omega
    clear hT hTg
    go_enter Tryz.func91, Tryz.ntmps91
    go_wp2
    go_loopw [7, 8] (fun o i wr => ∃ (k : Nat) (A : Option Addr) (cap : Nat), k ≤ T.length ∧ (k : Int) ≤ max most 0 ∧ o = .slice A k cap ∧ i = .int .i64 ((m + k : Nat) : Int) ∧ wr.ownsRow w.heap.size 9 1 (.slice A k cap) k (strs (T.take k)) ∧ Only [] w wr) (fun _ i _ => L.all.length - (intOf i).toNat)
    case atStart => exact ⟨0, none, 0, Nat.zero_le _, by omega, rfl, rfl, World.ownsRow_nil _ _ _ _, Only.refl _ _⟩
    case round =>
      obtain ⟨k, A, cap, hk, hkm, rfl, rfl, hown, hO⟩ := hrel
      by_cases hlt : k < T.length
      · have hdec2 : decide (((m + k : Nat) : Int) < L.len) = true := decide_eq_true (by omega)
        by_cases hm : (k : Int) < most
        · have hdec3 : decide ((k : Int) < most) = true := decide_eq_true hm
          have hGk := fun (w1 : World) (k1 : Only [] w w1) => HG.out w1 k1 ((m + k : Nat) : Int)
          rw [HT.out k hlt] at hGk
          have htk : T.take (k + 1) = T.take k ++ [T.getD k ⟨#[]⟩] := by
            rw [List.take_succ_eq_append_getElem hlt, List.getD_eq_getElem?_getD, List.getElem?_eq_getElem hlt]; rfl
          obtain ⟨s, hs⟩ : ∃ s, T.getD k ⟨#[]⟩ = s := ⟨_, rfl⟩
          rw [hs] at hGk htk
          dsimp only at hGk
          have HGk := Lib.hid hGk
          have HK := Lib.hid htk
          have htl : (T.take k).length = k := by rw [List.length_take]; omega
          have e1 := IntWalk.i64_in (((m + k : Nat) : Int) + 1) ⟨by omega, by omega⟩
          obtain ⟨n, hnn⟩ : ∃ n : Nat, n = m + k := ⟨_, rfl⟩
          rw [← hnn] at hdec2 e1 HGk ⊢
          have HN := Lib.hid hnn
          have HLA := Lib.hid hla
          have hkb : (T.take k).length ≤ 10000000 := by omega
          clear hGk hs htk hnn hla hTl
          go_wp2_with (first
            | (go_at_call 92; refine (HL.out _ hO).mono ?_; rintro e1 w1 ⟨rfl, k1⟩)
            | (go_at_call 134; refine (HGk.out _ (hO.trans k1)).mono ?_; rintro e2 w2 ⟨rfl, k2⟩
               have k3 := k1.trans k2
               have hown2 := own_only hown k3 (by simp)
               have hO2 := hO.trans k3
               have hown2 : w2.ownsRow w.heap.size 9 1 (.slice A (T.take k).length cap) (T.take k).length (strs (T.take k)) := by rw [htl]; exact hown2
               obtain ⟨A4, c4, w4, hr4, hown4, hO4⟩ := app1p hown2 hO2.size hkb s
               rw [htl] at hr4
               have hO5 : Only [] w w4 := (hO2.alloc _).step hO4 (fun g hg => .inr (by have h9 := (hown.lt g (by rw [← htl]; simpa using hg)).1; exact h9))
               have hml2 : (T.take k ++ [s]).length = k + 1 := by rw [List.length_append, htl]; rfl
               rw [hml2] at hown4
               have HR4 := Lib.hid hr4
               have HW4 := Lib.hid hown4
               clear hown hown2 hr4 hO4 hown4)
            | (at_builtin; refine Lib.wpList_append_run _ rfl (.tmp 34) (.tmp 36) 96 96 rfl _ _ rfl rfl _ _ HR4.out ?_))
          have hq1 := HN.out
          have hq2 := HTl.out
          exact ⟨⟨k + 1, A4, c4, hlt, by omega, rfl, congrArg (Value.int .i64) (by omega), by rw [HK.out]; exact HW4.out, hO5⟩, by simp [intOf]; omega⟩
        · have hdec3 : decide ((k : Int) < most) = false := decide_eq_false hm
          have hmk := Lib.hid (show most.toNat = k by omega)
          obtain ⟨n, hnn⟩ : ∃ n : Nat, n = m + k := ⟨_, rfl⟩
          rw [← hnn] at hdec2 ⊢
          clear hnn hla hTl
          go_wp2_with (go_at_call 92; refine (HL.out _ hO).mono ?_; rintro e1 w1 ⟨rfl, k1⟩)
          go_ret
          rw [hmk.out, List.length_take, Nat.min_eq_left hk]
          exact ⟨A, cap, rfl, own_only hown k1 (by simp), hO.trans k1⟩
      · have hdec2 : decide (((m + k : Nat) : Int) < L.len) = false := decide_eq_false (by omega)
        have hke : k = T.length := by omega
        subst hke
        have hTt := Lib.hid (show T.take most.toNat = T from List.take_of_length_le (by omega))
        rw [List.take_length] at hown
        obtain ⟨n, hnn⟩ : ∃ n : Nat, n = m + T.length := ⟨_, rfl⟩
        rw [← hnn] at hdec2 ⊢
        clear hnn hla hTl
        go_wp2_with (go_at_call 92; refine (HL.out _ hO).mono ?_; rintro e1 w1 ⟨rfl, k1⟩)
        go_ret
        rw [hTt.out]
        exact ⟨A, cap, rfl, own_only hown k1 (by simp), hO.trans k1⟩
end
end Go.Proofs.YteinoiicnmemhaaGreatDoor.J
/- A log as a law sees it: it lies above a world that stays; a new one; a first call whose answer the document fixes (alive). -/
set_option linter.unusedVariables false
set_option linter.unusedSimpArgs false
namespace Go.Proofs.YteinoiicnmemhaaGreatDoor.J
open Go Go.RowKit Go.Sort
section
variable {a w W w1 w' : World} {lb db mb M N : Nat} {d : DS} {L : LogS} {kv pv : Value} {xs : List (Value × PartL)} {R : List Nat}
theorem LogAt.old (h : LogAt a w lb db mb d L kv pv xs) : ∀ g ∈ lblk lb db mb kv pv xs, g < w.heap.size := by
  intro g hg
  obtain ⟨l1, l2, l3⟩ := h.lt
  rcases mem_lblk.1 hg with e | e | e | ⟨v, hv, hq⟩
  · omega
  · omega
  · omega
  · exact (h.away v hv g hq).2.2.2.1
/-- A disk that has nothing. -/
theorem drop_none (hf : Fine d) (he : d.fs = []) {p : ByteArray} (hp : p.size ≤ 20) : LogS.drop d (newN p) = (0, d) := by
  have ho : okName (newN p) := by
    have : (newN p).size = p.size + 3 := by unfold newN; rw [ByteArray.size_append]; rfl
    unfold okName
    omega
  have := hf.remove_none ho (by rw [he]; rfl)
  unfold LogS.drop
  rw [this]
  rfl
theorem mark_none (hf : Fine d) (he : d.fs = []) {p : ByteArray} (hp : p.size ≤ 20) : (LogS.bytes d (markN p)).2 = 8 := by
  have ho : okName (markN p) := by
    have : (markN p).size = p.size + 4 := by unfold markN; rw [ByteArray.size_append]; rfl
    unfold okName
    omega
  rw [hf.bytes_none ho (by rw [he]; rfl)]
theorem chunks_none (he : d.fs = []) (p : ByteArray) (size : Int) : (LogS.new p size).chunks d = (0, -1) := by
  have hl : d.list (LogS.new p size).pre = [] := by
    unfold DS.list
    split
    · have : d.names = [] := by
        apply List.eq_nil_iff_forall_not_mem.2
        intro n hn
        have := (mem_names d n).1 hn
        rw [he] at this
        cases this
      rw [this]
      rfl
    · rfl
  unfold LogS.chunks
  rw [hl]
  rfl
theorem fine_new : Fine (DS.new 0) := ⟨rfl, rfl, by simp [DS.new], List.nodup_nil⟩
end
end Go.Proofs.YteinoiicnmemhaaGreatDoor.J
/- Contracts: vote.Read of nothing; a node on a new disk. -/
set_option linter.unusedVariables false
set_option linter.unusedSimpArgs false
namespace Go.Proofs.YteinoiicnmemhaaGreatDoor
open Go.RowKit Go Go.Sort
set_option maxRecDepth 100000 in
set_option maxHeartbeats 2000000 in
theorem vread_none (w : World) : Calls Tryz.prog 124 #[.string ⟨#[]⟩] w fun e w' => e = .returned (.tuple #[.agg #[.int .i64 0, .int .i64 (-1)], .int .i64 0]) ∧ Only [] w w' := by
  have hfr : J.LogS.frames (⟨#[]⟩ : ByteArray).data.toList = ([], 0) := by kernel_rfl
  have HF := Lib.hid (fun (W : World) => show Calls Tryz.prog 149 #[.string ⟨#[]⟩] W fun e w' => ∃ A cap, e = .returned (.tuple #[.slice A 0 cap, .int .i64 0]) ∧ Only [] W w' from by
    have := J.fall_any (w := W) ⟨#[]⟩ (by decide)
    rw [hfr] at this
    exact this.mono fun e w' ⟨A, cap, q1, q2, q3⟩ => ⟨A, cap, q1, q3⟩)
  clear hfr
  have hbox : ∀ o1, Blk ((w.alloc o1).alloc (.cells #[.int .i64 0, .int .i64 (-1)] 152)) (w.heap.size + 1) 152 #[.int .i64 0, .int .i64 (-1)] := fun o1 => by
    have := Blk.new (w.alloc o1) 152 #[.int .i64 0, .int .i64 (-1)]
    rw [World.size_alloc] at this
    exact this
  go_enter Tryz.func124, Tryz.ntmps124
  go_wp2_with fail
  refine (HF.out _).mono ?_
  rintro e w1 ⟨A, cap, rfl, ho1⟩
  have hb := fun i => (ho1.blk (hbox _) (by simp)).cell i
  have hr := ho1.blk (((Only.refl [] _).alloc _).blk (Blk.new w 152 #[.int .i64 0, .int .i64 0]) (by simp)) (by simp)
  have hO := (((Only.refl [] w).alloc _).alloc _).trans ho1
  have h0 := fun i => hr.cell i
  have hf := fun i => hr.free i
  go_wp2_with fail
  have hz := fun i => ((hr.set 0 (.int .i64 0)).set 1 (.int .i64 (-1))).cell i
  go_loopw [5, 20] (fun nv iv wr => nv = .int .i64 0 ∧ iv = .int .i64 0 ∧ wr = w1) (fun _ _ _ => 0)
  case atStart => exact ⟨rfl, rfl, rfl⟩
  case round =>
    obtain ⟨rfl, rfl, hwr⟩ := hrel
    have hwr' := hwr.symm
    subst hwr'
    go_wp2_with fail
    refine bodyPost_ret (v := .tuple #[.agg #[.int .i64 0, .int .i64 (-1)], .int .i64 0]) (by simp [results, Tryz.results124, go_sem, hz]) rfl ⟨rfl, ?_⟩
    exact (hO.setCell (p := ⟨w.heap.size, 0, none⟩) (.inr (Nat.le_refl _)) _).setCell (p := ⟨w.heap.size, 1, none⟩) (.inr (Nat.le_refl _)) _
/-! ## a node on a new disk -/
/-- The cells of a node that has no entries. -/
def nodeC (st ld pat : Int) (db : Nat) (id nodes : Int) (lg : Value) (t f : Int) (sb : Nat) : Array Value :=
  #[.int .i64 st, .int .i64 ld, .int .i64 pat, .int .i64 0, .slice none 0 0, .slice none 0 0, .slice none 0 0, .pointer (some ⟨db, 0, none⟩), .int .i64 id, .int .i64 nodes, lg, .slice none 0 0, .int .i64 t, .int .i64 f, .int .i64 0, .pointer (some ⟨sb, 0, none⟩), .slice none 0 0, .int .i64 0, .slice none 0 0]
/-- A new state in memory. -/
structure NewAt (w : World) (sb mb : Nat) : Prop where
  blk : Blk w sb 72 #[.slice none 0 0, .map (some mb), .int .i64 0, .int .i64 0]
  map : MapIs Value.string w mb []
section
variable {a w w' : World} {sb mb nb db kvb : Nat} {S : List Nat} {kv : Value}
theorem NewAt.only (h : NewAt w sb mb) (k : Only S w w') (h1 : sb ∉ S) (h2 : mb ∉ S) : NewAt w' sb mb := ⟨k.blk h.blk h1, h.map.only k h2⟩
theorem NewAt.st (h : NewAt w sb mb) (pf : ByteArray → Value) : StAt w [sb, mb] sb mb (.slice none 0 0) pf MS.new :=
  ⟨h.blk, World.ownsRow_nil _ _ _ _, h.map, fun n x hx => by simp [MS.new] at hx, ⟨by simp, by simp, fun g hg => by cases hg⟩, fun g hg => by
    simp at hg
    rcases hg with rfl | rfl
    · exact h.blk.lt
    · exact h.map.lt⟩
theorem newAt_any (w : World) : Calls Tryz.prog 8 #[] w fun e w' => e = .returned (.pointer (some ⟨w.heap.size + 1, 0, none⟩)) ∧ NewAt w' (w.heap.size + 1) w.heap.size ∧ Only [] w w' :=
  (newS_any w (fun _ => .slice none 0 0)).mono fun e w' ⟨h1, h2, h3⟩ => ⟨h1, ⟨h2.blk, h2.map⟩, h3⟩
set_option maxRecDepth 100000 in
set_option maxHeartbeats 2000000 in
theorem nvoted_new {id nodes : Int} {sb : Nat} (hB : Blk w nb 160 (nodeC 0 0 0 db id nodes (.pointer none) 0 0 sb)) (hD : J.DiskAt w db mb (J.DS.new 0) kv) (hn : nb ≠ db ∧ nb ≠ mb ∧ ∀ g, kv.ownBlock = some g → g ≠ nb) :
    Calls Tryz.prog 89 #[.pointer (some ⟨nb, 0, none⟩)] w fun e w' => e = .returned (.int .i64 0) ∧ Only [nb] w w' ∧ Blk w' nb 160 (nodeC 0 0 0 db id nodes (.pointer none) 0 (-1) sb) := by
  have HV := Lib.hid (fun (W : World) => vread_none W)
  have hsz : (J.DS.new 0).size ⟨#[118, 111, 116, 101]⟩ = (0, 8) := by kernel_rfl
  have HS := Lib.hid (fun (W : World) (h : J.DiskAt W db mb (J.DS.new 0) kv) => show Calls Tryz.prog 125 #[.pointer (some ⟨db, 0, none⟩), .string ⟨#[118, 111, 116, 101]⟩] W fun e w' => e = .returned (.tuple #[.int .i64 0, .int .i64 8]) ∧ Only [] W w' from by
    have := J.size_any h ⟨#[118, 111, 116, 101]⟩
    rw [hsz] at this
    exact this)
  clear hsz
  unfold nodeC at hB ⊢
  go_enter Tryz.func89, Tryz.ntmps89
  go_wp2_with fail
  refine (HV.out _).mono ?_
  rintro e w1 ⟨rfl, ho1⟩
  have hB1 := ho1.blk hB (by simp)
  have hc := fun i => hB1.cell i
  have hf := fun i => hB1.free i
  have hB2 := (hB1.set 12 (.int .i64 0)).set 13 (.int .i64 (-1))
  have hO2 : Only [nb] w ((w1.setCell ⟨nb, 12, none⟩ (.int .i64 0)).setCell ⟨nb, 13, none⟩ (.int .i64 (-1))) := ((ho1.of_nil (S := [nb])).setCell (p := ⟨nb, 12, none⟩) (.inl (by simp)) _).setCell (p := ⟨nb, 13, none⟩) (.inl (by simp)) _
  have HD2 := Lib.hid (hD.only hO2 (by simp; exact fun q => hn.1 q.symm) (by simp; exact fun q => hn.2.1 q.symm) (fun g hg => by simp; exact hn.2.2 g hg))
  go_wp2_with fail
  refine (HS.out _ HD2.out).mono ?_
  rintro e w2 ⟨rfl, ho2⟩
  go_wp2
  go_ret
  exact ⟨rfl, hO2.trans ho2.of_nil, ho2.blk hB2 (by simp)⟩
set_option maxRecDepth 100000 in
theorem ncalm_any {st ld pat : Int} {id nodes : Int} {lg : Value} {t f : Int} {sb : Nat} (hB : Blk w nb 160 (nodeC st ld pat db id nodes lg t f sb)) (hid : 0 ≤ id ∧ id ≤ 7) :
    Calls Tryz.prog 94 #[.pointer (some ⟨nb, 0, none⟩)] w fun e w' => e = .returned (.tuple #[]) ∧ w' = w.setCell ⟨nb, 2, none⟩ (.int .i64 (10 + id)) := by
  unfold nodeC at hB
  have hc := fun i => hB.cell i
  have hf := fun i => hB.free i
  have e9 := IntWalk.i64_in (10 + id) ⟨by omega, by omega⟩
  go_enter Tryz.func94, Tryz.ntmps94
  go_wp2
  go_end0
  exact ⟨rfl, rfl⟩
set_option maxRecDepth 100000 in
set_option maxHeartbeats 4000000 in
theorem nopen_new (hT : J.Tab a) (hO : Only [] a w) (hD : J.DiskAt w db mb (J.DS.new 0) kv) (hu : a.heap.size ≤ db ∧ a.heap.size ≤ mb) (hkv : kv.ownBlock = none) (id nodes : Int) (h0 : 0 ≤ id) (h1 : id < nodes) (h2 : nodes ≤ 7) :
    Calls Tryz.prog 50 #[.pointer (some ⟨db, 0, none⟩), .int .i64 id, .int .i64 nodes] w fun e w' => ∃ nb lb sb smb, e = .returned (.tuple #[.pointer (some ⟨nb, 0, none⟩), .int .i64 0]) ∧ w.heap.size ≤ nb ∧ Blk w' nb 160 (nodeC 1 (-1) (10 + id) db id nodes (.pointer (some ⟨lb, 0, none⟩)) 0 (-1) sb) ∧ NewAt w' sb smb ∧ w.heap.size ≤ sb ∧ w.heap.size ≤ smb ∧ Only [db, mb] w w' := by
  have q1 : decide (nodes < 1) = false := decide_eq_false (by omega)
  have q2 : decide (nodes > 7) = false := decide_eq_false (by omega)
  have q3 : decide (id < 0) = false := decide_eq_false (by omega)
  have q4 : decide (id ≥ nodes) = false := decide_eq_false (by omega)
  have hdl := hD.blk.lt
  have hml := hD.map.lt
  have HN := Lib.hid (fun (W : World) => newAt_any W)
  have HDk := Lib.hid hD
  go_enter Tryz.func50, Tryz.ntmps50
  go_wp2_with fail
  refine (HN.out _).mono ?_
  rintro e w1 ⟨rfl, hs1, ho1⟩
  have hz1 := ho1.size
  have hs1l := hs1.blk.lt
  have hB1 : Blk (w1.alloc (.cells (nodeC 0 0 0 db id nodes (.pointer none) 0 0 (w.heap.size + 1)) 160)) w1.heap.size 160 (nodeC 0 0 0 db id nodes (.pointer none) 0 0 (w.heap.size + 1)) := Blk.new _ _ _
  have k1 : Only [] w1 (w1.alloc (.cells (nodeC 0 0 0 db id nodes (.pointer none) 0 0 (w.heap.size + 1)) 160)) := (Only.refl _ _).alloc _
  have HV := Lib.hid (nvoted_new (mb := mb) hB1 ((HDk.out.only0 ho1).only0 k1) ⟨by omega, by omega, fun g hg => by rw [hkv] at hg; cases hg⟩)
  have ho2 := ho1.trans k1
  have hs2 := hs1.only k1 (by simp) (by simp)
  unfold nodeC at HV hs2 ho2
  clear hB1 k1
  go_wp2_with fail
  refine HV.out.mono ?_
  rintro e w2 ⟨rfl, k2, hB2⟩
  obtain ⟨nb, hnb⟩ : ∃ nb, w1.heap.size = nb := ⟨_, rfl⟩
  obtain ⟨sb, hsb⟩ : ∃ sb, w.heap.size + 1 = sb := ⟨_, rfl⟩
  obtain ⟨smb, hsmb⟩ : ∃ smb, w.heap.size = smb := ⟨_, rfl⟩
  have k02 : Only [nb] w w2 := by rw [← hnb]; exact (ho2.of_nil).trans k2
  have hw2 := k2.size
  have hnl := hB2.lt
  have hD2 := HDk.out.only k02 (by simp; omega) (by simp; omega) (fun g hg => by rw [hkv] at hg; cases hg)
  have hO2 : Only [] a w2 := hO.step k02 (fun i hi => by simp at hi; have := hO.size; exact .inr (by omega))
  have hs3 : NewAt w2 sb smb := by
    rw [← hsb, ← hsmb]
    exact hs2.only k2 (by simp; omega) (by simp; omega)
  have HOp := Lib.hid (show Calls Tryz.prog 90 #[.pointer (some ⟨db, 0, none⟩), .string ⟨#[108, 111, 103]⟩, .int .i64 20000] w2 fun e w' => ∃ lb kv', e = .returned (.tuple #[.pointer (some ⟨lb, 0, none⟩), .int .i64 0]) ∧ J.LogAt a w' lb db mb (J.DS.new 0) (J.LogS.new ⟨#[108, 111, 103]⟩ 20000) kv' (.slice none 0 0) [] ∧ Only [db, mb] w2 w' ∧ w2.heap.size ≤ lb ∧ (∀ g, kv'.ownBlock = some g → w2.heap.size ≤ g) from by
    have hp2 : (⟨#[108, 111, 103]⟩ : ByteArray).size ≤ 20 := by decide
    have hdn := J.drop_none (d := J.DS.new 0) J.fine_new rfl hp2
    have := J.jopen_fresh hT hO2 hD2 hu (fun g hg => by rw [hkv] at hg; cases hg) (M := 0) (J.DS.new_ok 0) (by omega) ⟨#[108, 111, 103]⟩ 20000 (by decide) (by rw [hdn]) (by rw [hdn]; exact J.chunks_none rfl _ _) (by rw [hdn]; exact J.mark_none J.fine_new rfl hp2)
    rw [hdn] at this
    exact this.mono fun e w' ⟨lb, kv', r1, r2, r3, r4, r5⟩ => ⟨lb, kv', r1, r2, r3, r4, fun g hg => (r5 g hg).elim (fun q => by rw [hkv] at q; cases q) (fun q => q)⟩)
  rw [hnb, hsb] at hB2
  rw [hnb, hsb]
  clear hs1 hs2 ho1 ho2 hD HV HDk HN hD2
  go_wp2_with fail
  refine HOp.out.mono ?_
  rintro e w3 ⟨lb, kv', rfl, hL, k3, hlb, hkv'⟩
  have hB3 := k3.blk hB2 (by simp; omega)
  have hc := fun i => hB3.cell i
  have hf := fun i => hB3.free i
  have hB4 : Blk (w3.setCell ⟨nb, 10, none⟩ (.pointer (some ⟨lb, 0, none⟩))) nb 160 (nodeC 0 0 0 db id nodes (.pointer (some ⟨lb, 0, none⟩)) 0 (-1) sb) := hB3.set 10 (.pointer (some ⟨lb, 0, none⟩))
  have k4 : Only [nb] w3 (w3.setCell ⟨nb, 10, none⟩ (.pointer (some ⟨lb, 0, none⟩))) := (Only.refl _ _).setCell (.inl (by simp)) _
  have hL4 := hL.only k4 (by simp; omega) (by simp; omega) (by simp; omega) (fun v hv g hg => by
    simp at hv ⊢
    rcases hv with rfl | rfl
    · have := hkv' g hg
      omega
    · cases hg) (fun g hg => by simp at hg; have := hO.size; omega)
  have HLn := Lib.hid (show Calls Tryz.prog 92 #[.pointer (some ⟨lb, 0, none⟩)] (w3.setCell ⟨nb, 10, none⟩ (.pointer (some ⟨lb, 0, none⟩))) fun e w' => e = .returned (.int .i64 0) ∧ Only [] (w3.setCell ⟨nb, 10, none⟩ (.pointer (some ⟨lb, 0, none⟩))) w' from J.jlen_any hL4 (by simp) (by decide))
  have HRg := Lib.hid (fun (W : World) (k : Only [] (w3.setCell ⟨nb, 10, none⟩ (.pointer (some ⟨lb, 0, none⟩))) W) => show Calls Tryz.prog 91 #[.pointer (some ⟨lb, 0, none⟩), .int .i64 0, .int .i64 0] W fun e w' => ∃ A cap, e = .returned (.slice A 0 cap) ∧ Only [] W w' from (J.jrange_any (hL4.only0 k) (by simp) (by decide) 0 0).mono fun e w' ⟨A, cap, r1, r2, r3⟩ => ⟨A, cap, r1, r3⟩)
  have HB4 := Lib.hid hB4
  have K4 := Lib.hid k4
  clear hL hL4 hB4 k4
  go_wp2_with fail
  refine HLn.out.mono ?_
  rintro e w5 ⟨rfl, k5⟩
  go_wp2_with fail
  refine (HRg.out _ k5).mono ?_
  rintro e w6 ⟨Ar, cr, rfl, k6⟩
  have hB6 := k6.blk (k5.blk HB4.out (by simp)) (by simp)
  have k36 : Only [nb] w3 w6 := K4.out.trans ((k5.trans k6).of_nil)
  have r0 : Blk (w6.setCell ⟨nb, 0, none⟩ (.int .i64 1)) nb 160 (nodeC 1 0 0 db id nodes (.pointer (some ⟨lb, 0, none⟩)) 0 (-1) sb) := hB6.set 0 _
  have r1 : Blk ((w6.setCell ⟨nb, 0, none⟩ (.int .i64 1)).setCell ⟨nb, 1, none⟩ (.int .i64 (-1))) nb 160 (nodeC 1 (-1) 0 db id nodes (.pointer (some ⟨lb, 0, none⟩)) 0 (-1) sb) := r0.set 1 _
  have r2 : Blk (((w6.setCell ⟨nb, 0, none⟩ (.int .i64 1)).setCell ⟨nb, 1, none⟩ (.int .i64 (-1))).setCell ⟨nb, 2, none⟩ (.int .i64 0)) nb 160 (nodeC 1 (-1) 0 db id nodes (.pointer (some ⟨lb, 0, none⟩)) 0 (-1) sb) := r1.set 2 _
  have r3 : Blk ((((w6.setCell ⟨nb, 0, none⟩ (.int .i64 1)).setCell ⟨nb, 1, none⟩ (.int .i64 (-1))).setCell ⟨nb, 2, none⟩ (.int .i64 0)).setCell ⟨nb, 3, none⟩ (.int .i64 0)) nb 160 (nodeC 1 (-1) 0 db id nodes (.pointer (some ⟨lb, 0, none⟩)) 0 (-1) sb) := r2.set 3 _
  have r4 : Blk (((((w6.setCell ⟨nb, 0, none⟩ (.int .i64 1)).setCell ⟨nb, 1, none⟩ (.int .i64 (-1))).setCell ⟨nb, 2, none⟩ (.int .i64 0)).setCell ⟨nb, 3, none⟩ (.int .i64 0)).setCell ⟨nb, 4, none⟩ (.slice none 0 0)) nb 160 (nodeC 1 (-1) 0 db id nodes (.pointer (some ⟨lb, 0, none⟩)) 0 (-1) sb) := r3.set 4 _
  have r5 : Blk ((((((w6.setCell ⟨nb, 0, none⟩ (.int .i64 1)).setCell ⟨nb, 1, none⟩ (.int .i64 (-1))).setCell ⟨nb, 2, none⟩ (.int .i64 0)).setCell ⟨nb, 3, none⟩ (.int .i64 0)).setCell ⟨nb, 4, none⟩ (.slice none 0 0)).setCell ⟨nb, 5, none⟩ (.slice none 0 0)) nb 160 (nodeC 1 (-1) 0 db id nodes (.pointer (some ⟨lb, 0, none⟩)) 0 (-1) sb) := r4.set 5 _
  have r6 : Blk (((((((w6.setCell ⟨nb, 0, none⟩ (.int .i64 1)).setCell ⟨nb, 1, none⟩ (.int .i64 (-1))).setCell ⟨nb, 2, none⟩ (.int .i64 0)).setCell ⟨nb, 3, none⟩ (.int .i64 0)).setCell ⟨nb, 4, none⟩ (.slice none 0 0)).setCell ⟨nb, 5, none⟩ (.slice none 0 0)).setCell ⟨nb, 6, none⟩ (.slice none 0 0)) nb 160 (nodeC 1 (-1) 0 db id nodes (.pointer (some ⟨lb, 0, none⟩)) 0 (-1) sb) := r5.set 6 _
  have HB7 := Lib.hid r6
  clear r0 r1 r2 r3 r4 r5 r6
  unfold nodeC at hB6
  have hc6 := fun i => hB6.cell i
  have hf6 := fun i => hB6.free i
  have k7 := fun u0 u1 u2 u3 u4 u5 u6 => ((((((k36.setCell (p := ⟨nb, 0, none⟩) (.inl (by simp)) u0).setCell (p := ⟨nb, 1, none⟩) (.inl (by simp)) u1).setCell (p := ⟨nb, 2, none⟩) (.inl (by simp)) u2).setCell (p := ⟨nb, 3, none⟩) (.inl (by simp)) u3).setCell (p := ⟨nb, 4, none⟩) (.inl (by simp)) u4).setCell (p := ⟨nb, 5, none⟩) (.inl (by simp)) u5).setCell (p := ⟨nb, 6, none⟩) (.inl (by simp)) u6
  have K7 := Lib.hid k7
  clear hc hf k7 hB6 hB3
  go_wp2_with fail
  go_loopw [63] (fun iv wr => iv = .int .i64 0 ∧ wr = w6) (fun _ _ => 0)
  case atStart => exact ⟨rfl, rfl⟩
  case round =>
    obtain ⟨rfl, hwr⟩ := hrel
    have hwr' := hwr.symm
    subst hwr'
    go_wp2_with fail
    refine (ncalm_any HB7.out ⟨h0, by omega⟩).mono ?_
    rintro e w8 ⟨rfl, rfl⟩
    have hF := (K7.out (.int .i64 1) (.int .i64 (-1)) (.int .i64 0) (.int .i64 0) (.slice none 0 0) (.slice none 0 0) (.slice none 0 0)).setCell (p := ⟨nb, 2, none⟩) (.inl (by simp)) (.int .i64 (10 + id))
    have hBF := HB7.out.set 2 (.int .i64 (10 + id))
    have HF := Lib.hid hF
    have HBF := Lib.hid (show Blk _ nb 160 (nodeC 1 (-1) (10 + id) db id nodes (.pointer (some ⟨lb, 0, none⟩)) 0 (-1) sb) from hBF)
    have HS := Lib.hid hs3
    clear hF hBF hc6 hf6 K7 HB7
    go_wp2_with fail
    go_ret2
    refine ⟨nb, lb, sb, smb, rfl, by omega, HBF.out, (HS.out.only k3 (by simp; omega) (by simp; omega)).only HF.out (by simp; omega) (by simp; omega), by omega, by omega, ?_⟩
    exact (((Only.refl [db, mb] w).step k02 (fun i hi => by simp at hi; exact .inr (by omega))).step k3 (fun i hi => .inl hi)).step HF.out (fun i hi => by simp at hi; exact .inr (by omega))
end
end Go.Proofs.YteinoiicnmemhaaGreatDoor
/- Contracts: keys of a map with texts as keys, collected; Grow of nil; Concat of two lists of texts. -/
set_option linter.unusedVariables false
set_option linter.unusedSimpArgs false
namespace Go.Proofs.YteinoiicnmemhaaGreatDoor
open Go.RowKit Go.MapKept Go.Maps Go.WideMaps Go.Sort
open Go.WideElems (Fit rd rg pl rd_mk rg_of)
/-- How an element reads where nobody looks at it. -/
def blind (_ : Value) : Option (DataW Unit × List MemPlace) := some (.nil, [])
theorem MapIs.owns {P : Program} {k : TypeId} (hk : P.underlying k = some .string) {w : World} {b : Nat} {kv : List (ByteArray × Value)} (h : MapIs Value.string w b kv) (hn : kv.length ≤ maxLen) (hs : ∀ p ∈ kv, p.1.size ≤ maxLen) :
    ∃ D0 : DataW Unit, w.ownsMap P k blind b kv.length D0 ∧ (strKeys D0).Perm (kv.map fun p => p.1.data.toList) ∧ Maps.size D0 = kv.length := by
  obtain ⟨es, clock, hb, hst, hm⟩ := h
  have hl : es.size = kv.length := by have := congrArg List.length hm; simpa using this
  have hx : ∀ x ∈ es.toList, ∃ s : ByteArray, x.key = .string s ∧ s.size ≤ maxLen := by
    intro x hx
    have : (x.key, x.val) ∈ kv.map (fun p => (Value.string p.1, p.2)) := by rw [← hm]; exact List.mem_map.2 ⟨x, hx, rfl⟩
    obtain ⟨p, hp, e⟩ := List.mem_map.1 this
    simp only [Prod.mk.injEq] at e
    exact ⟨p.1, e.1.symm, hs p hp⟩
  have hr : ∀ x ∈ es.toList, ∀ s, x.key = .string s → s.size ≤ maxLen → rg P k blind x = (.string s.data.toList, .nil) := by
    intro x _ s e h1
    have h2 := rd_mk (R := blind) (val := x.val) (born := x.born) (keyOf_string_mk hk h1) (rfl : blind x.val = some (.nil, []))
    rw [← e] at h2
    exact rg_of h2
  refine ⟨_, ⟨es, clock, hb, ⟨by omega, hst, ?_⟩, by omega, rfl⟩, ?_, ?_⟩
  · intro x hx'
    obtain ⟨s, e, h1⟩ := hx x hx'
    refine ⟨(.string s.data.toList, .nil), ?_⟩
    have h2 := rd_mk (R := blind) (val := x.val) (born := x.born) (keyOf_string_mk hk h1) (rfl : blind x.val = some (.nil, []))
    rw [← e] at h2
    exact h2
  · refine ((WideShapes.sorted_perm _).map _).trans ?_
    have e1 : (es.toList.map (rg P k blind)).map (fun p => strOf p.1) = kv.map fun p => p.1.data.toList := by
      apply List.ext_getElem?
      intro i
      have hi := congrArg (fun l => l[i]?) hm
      simp only [List.getElem?_map] at hi ⊢
      cases h1 : es.toList[i]? with
      | none =>
        rw [h1] at hi
        cases h2 : kv[i]? with
        | none => rfl
        | some p => rw [h2] at hi; simp at hi
      | some x =>
        rw [h1] at hi
        cases h2 : kv[i]? with
        | none => rw [h2] at hi; simp at hi
        | some p =>
          rw [h2] at hi
          simp only [Option.map_some, Option.some.injEq, Prod.mk.injEq] at hi
          have hp : p.1.size ≤ maxLen := hs p (List.mem_of_getElem? h2)
          have := hr x (List.mem_of_getElem? h1) p.1 hi.1 hp
          simp [this, strOf]
    rw [e1]
  · show (List.foldr DataW.insert [] (es.toList.map (rg P k blind))).length = _
    rw [(WideShapes.sorted_perm _).length_eq]
    simp [hl]
theorem strs_of (l : List (List UInt8)) : (l.map encStr) = strs (l.map fun x => ⟨x.toArray⟩) := by
  simp [strs, encStr]
theorem keysM_any (mb : Option Nat) (W : World) : Calls Tryz.prog 36 #[.map mb] W fun e w' => e = .returned (.func (.func 75) #[] #[.pointer (some ⟨W.heap.size, 0, none⟩)]) ∧ w' = W.alloc (.cells #[.map mb] 70) := callsIn_wide.1 (Tryz.maps_Keys_36 mb W)
theorem run_append_none {P : Program} (w : World) (t e ty : TypeId) (A : Option Addr) (size n cap m c : Nat) (ht : P.underlying t = some (.slice e)) (hs : (Go.sizeOf e).run P w = .ok size w) (hnc : n ≤ cap) (hm : m = 0) :
    (Builtin.append_ #[t, t] ty #[.slice A n cap, .slice none m c]).run P w = .ok (.slice A n cap) w := by
  subst hm
  exact run_append_nothing w t e ty A size n cap c ht hs hnc
theorem infoSg : (Tryz.prog.info? 9).map (fun i => (i.zero, i.size, i.bytes)) = some (some (.string ⟨#[]⟩), 1, 16) := by kernel_rfl
theorem sizeSgV (w : World) : (Go.sizeOf 9).run Tryz.prog w = .ok 1 w := by kernel_rfl
set_option maxRecDepth 100000 in
theorem growS_any (w : World) (n : Nat) (hn : n ≤ 2000000) : Calls Tryz.prog 73 #[.slice none 0 0, .int .i64 n] w fun e w' => ∃ v, e = .returned v ∧ w'.ownsRow w.heap.size 9 1 v 0 [] ∧ Only [] w w' := by
  obtain ⟨i0, hi, hz0, hz1, hz2⟩ := info_parts infoSg
  by_cases h0 : n = 0
  · subst h0
    go_enter Tryz.func73, Tryz.ntmps73
    go_wp2
    go_ret
    exact ⟨_, rfl, World.ownsRow_nil _ _ _ _, Only.refl _ _⟩
  · have hpos : 0 < n := by omega
    have hposi : (0 : Int) < n := by omega
    have happ := fun ty => Lib.run_append_nil_zeros (P := Tryz.prog) w 96 3 ty 9 i0 (.string ⟨#[]⟩) .i64 .i64 Tryz.underlying96 Tryz.underlying3 hi hz0 n hpos (by omega) (by omega) (by rw [hz2]; omega)
    have hge := grownCap_ge w n 0 9
    have hle := grownCap_le_maxLen w n 0 9 (by unfold maxLen; omega)
    go_enter Tryz.func73, Tryz.ntmps73
    go_wp2_with (at_builtin; refine Lib.wpList_append_run _ rfl (.tmp 20) (.tmp 21) 96 3 rfl _ _ rfl rfl _ _ (happ _) ?_)
    go_ret
    refine ⟨_, rfl, ⟨rfl, .inr ⟨w.heap.size, grownCap w n 0 9, _, rfl, Nat.le_refl _, Blk.new w 9 _, Nat.zero_le _, hle, ?_, by simp⟩⟩, ((Only.refl [] w).alloc _).drew⟩
    simp [Builtin.zeroCells]
    omega
set_option maxRecDepth 100000 in
set_option maxHeartbeats 2000000 in
theorem concatS_any {w : World} {g : Nat} {v1 v2 : Value} {ns ms : List ByteArray} (hB : Blk w g 96 #[v1, v2]) (h1 : Slc w 1 v1 ns.length (strs ns)) (h2 : Slc w 1 v2 ms.length (strs ms)) (b1 : ns.length ≤ 1000000) (b2 : ms.length ≤ 1000000) :
    Calls Tryz.prog 34 #[.slice (some ⟨g, 0, none⟩) 2 2] w fun e w' => ∃ v, e = .returned v ∧ w'.ownsRow w.heap.size 9 1 v (ns ++ ms).length (strs (ns ++ ms)) ∧ Only [] w w' := by
  obtain ⟨i0, hi, hz0, hz1, hz2⟩ := info_parts infoSg
  obtain ⟨A1, c1, hv1, p1, p2, p3, p4⟩ := h1.cell
  obtain ⟨A2, c2, hv2, q1, q2, q3, q4⟩ := h2.cell
  subst hv1 hv2
  have hg := hB.lt
  have d0 : w.cell? ⟨g, 0, none⟩ = some (.slice A1 ns.length c1) := hB.cell 0
  have d1 : w.cell? ⟨g, 1, none⟩ = some (.slice A2 ms.length c2) := hB.cell 1
  unfold maxLen at p2 q2
  have HG := Lib.hid (fun (n : Nat) (hn : n ≤ 2000000) => growS_any w n hn)
  go_enter Tryz.func34, Tryz.ntmps34
  go_wp2
  go_loopw [3, 11] (fun sz i wr => ∃ k : Nat, k ≤ 2 ∧ i = .int .i64 k ∧ sz = .int .i64 ((if k = 0 then 0 else if k = 1 then ns.length else ns.length + ms.length : Nat) : Int) ∧ wr = w) (fun _ i _ => 2 - (intOf i).toNat)
  case atStart => exact ⟨0, by omega, rfl, rfl, rfl⟩
  case round =>
    obtain ⟨k, hk, rfl, rfl, hwr⟩ := hrel
    have hwr' := hwr.symm
    subst hwr'
    rcases (by omega : k = 0 ∨ k = 1 ∨ k = 2) with rfl | rfl | rfl
    · go_wp2
      exact ⟨⟨1, by omega, rfl, by simp, trivial⟩, by simp [intOf]⟩
    · go_wp2
      exact ⟨⟨2, by omega, rfl, by simp, trivial⟩, by simp [intOf]⟩
    · have hgr := growS_any w (ns.length + ms.length) (by omega)
      rw [Int.natCast_add] at hgr
      have HGr := Lib.hid hgr
      go_wp2_with (go_at_call 73; refine HGr.out.mono ?_; rintro e w1 ⟨v0, rfl, hown0, ho0⟩)
      go_loopw [6, 27] (fun o i wx => ∃ k : Nat, k ≤ 2 ∧ i = .int .i64 k ∧ Only [] w wx ∧ wx.ownsRow w.heap.size 9 1 o (if k = 0 then [] else if k = 1 then ns else ns ++ ms).length (strs (if k = 0 then [] else if k = 1 then ns else ns ++ ms))) (fun _ i _ => 2 - (intOf i).toNat)
      case atStart => exact ⟨0, by omega, rfl, ho0, hown0⟩
      case round =>
        obtain ⟨k, hk, rfl, hO, hown⟩ := hrel
        obtain ⟨Ao, co, rfl, hco1, hco2⟩ := own_form hown
        have e0 : wr.cell? ⟨g, 0, none⟩ = some (.slice A1 ns.length c1) := (hO.cell hg (by simp)).trans d0
        have e1 : wr.cell? ⟨g, 1, none⟩ = some (.slice A2 ms.length c2) := (hO.cell hg (by simp)).trans d1
        rcases (by omega : k = 0 ∨ k = 1 ∨ k = 2) with rfl | rfl | rfl
        · simp only [if_true] at hown hco1 ⊢
          cases A1 with
          | none =>
            have hn0 : ns = [] := by
              rcases p4 with q | ⟨_, _, q, _⟩
              · exact List.length_eq_zero_iff.1 q
              · cases q
            have HN0 := Lib.hid hn0
            have HAp := Lib.hid (fun ty => run_append_none wr 96 9 ty Ao 1 (([] : List ByteArray)).length co (ns).length c1 Tryz.underlying96 (sizeSgV _) hco1 (by rw [hn0]; rfl))
            clear hn0
            have hown2 : wr.ownsRow w.heap.size 9 1 (.slice Ao (([] : List ByteArray)).length co) (([] : List ByteArray) ++ ns).length (strs (([] : List ByteArray) ++ ns)) := by
              rw [HN0.out, List.append_nil]
              exact hown
            have HO2 := Lib.hid hown2
            clear hown2
            go_wp2_with (at_builtin; refine Lib.wpList_append_run _ rfl (.tmp 31) (.tmp 32) 96 96 rfl _ _ rfl rfl _ _ (HAp.out _) ?_)
            exact ⟨⟨1, by omega, rfl, hO, by simpa using HO2.out⟩, by simp [intOf]⟩
          | some ad =>
            obtain ⟨bs, os, sp⟩ := ad
            have hcell : ∀ j u, (strs ns)[j]? = some u → wr.cell? ((⟨bs, os, sp⟩ : Addr).add j) = some u := by
              intro j u hu
              have hj : j < (strs ns).length := (List.getElem?_eq_some_iff.1 hu).1
              rcases p4 with q | ⟨b', off', q, hb', hcc⟩
              · rw [p3] at hj; omega
              · cases q
                have := hcc j hj
                rw [hu] at this
                rw [show ((⟨bs, os, none⟩ : Addr).add j) = ⟨bs, os + j, none⟩ by simp [Addr.add]]
                exact (hO.cell hb' (by simp)).trans this
            have HCell := Lib.hid hcell
            clear hcell
            go_wp2_with (at_builtin; refine wpList_append_own _ rfl (.tmp 31) (.tmp 32) 96 rfl w.heap.size 9 i0 (.string ⟨#[]⟩) 1 16 Tryz.underlying96 hi hz0 hz1 hz2 rfl (by decide) (.slice Ao (([] : List ByteArray)).length co) (([] : List ByteArray)).length _ rfl hown ⟨bs, os, sp⟩ (ns).length c1 (strs ns) rfl (by simp [strs]) HCell.out ?c2 ?c3 ?c4 ?c5 ?_)
            case c2 =>
              intro u hu
              obtain ⟨x, _, rfl⟩ := List.mem_map.1 hu
              rfl
            case c3 => unfold maxLen; (try simp); omega
            case c4 => (try simp); omega
            case c5 => exact hO.size
            intro v' w4 hown' hgrow _
            have ho4 : Only [] w w4 := hO.grown hgrow (fun k hk => .inr (hown.lt k hk).1)
            have hown2 : w4.ownsRow w.heap.size 9 1 v' (([] : List ByteArray) ++ ns).length (strs (([] : List ByteArray) ++ ns)) := by
              rw [show strs (([] : List ByteArray) ++ ns) = strs (([] : List ByteArray)) ++ strs (ns) by simp [strs], List.length_append]
              first | exact hown' | simpa using hown'
            have HO2 := Lib.hid hown2
            clear hgrow hown' hown2
            go_wp2
            exact ⟨⟨1, by omega, rfl, ho4, by simpa using HO2.out⟩, by simp [intOf]⟩
        · simp only [Nat.one_ne_zero, if_false, if_true] at hown hco1 ⊢
          cases A2 with
          | none =>
            have hn0 : ms = [] := by
              rcases q4 with q | ⟨_, _, q, _⟩
              · exact List.length_eq_zero_iff.1 q
              · cases q
            have HN0 := Lib.hid hn0
            have HAp := Lib.hid (fun ty => run_append_none wr 96 9 ty Ao 1 (ns).length co (ms).length c2 Tryz.underlying96 (sizeSgV _) hco1 (by rw [hn0]; rfl))
            clear hn0
            have hown2 : wr.ownsRow w.heap.size 9 1 (.slice Ao (ns).length co) (ns ++ ms).length (strs (ns ++ ms)) := by
              rw [HN0.out, List.append_nil]
              exact hown
            have HO2 := Lib.hid hown2
            clear hown2
            go_wp2_with (at_builtin; refine Lib.wpList_append_run _ rfl (.tmp 31) (.tmp 32) 96 96 rfl _ _ rfl rfl _ _ (HAp.out _) ?_)
            exact ⟨⟨2, by omega, rfl, hO, by simpa using HO2.out⟩, by simp [intOf]⟩
          | some ad =>
            obtain ⟨bs, os, sp⟩ := ad
            have hcell : ∀ j u, (strs ms)[j]? = some u → wr.cell? ((⟨bs, os, sp⟩ : Addr).add j) = some u := by
              intro j u hu
              have hj : j < (strs ms).length := (List.getElem?_eq_some_iff.1 hu).1
              rcases q4 with q | ⟨b', off', q, hb', hcc⟩
              · rw [q3] at hj; omega
              · cases q
                have := hcc j hj
                rw [hu] at this
                rw [show ((⟨bs, os, none⟩ : Addr).add j) = ⟨bs, os + j, none⟩ by simp [Addr.add]]
                exact (hO.cell hb' (by simp)).trans this
            have HCell := Lib.hid hcell
            clear hcell
            go_wp2_with (at_builtin; refine wpList_append_own _ rfl (.tmp 31) (.tmp 32) 96 rfl w.heap.size 9 i0 (.string ⟨#[]⟩) 1 16 Tryz.underlying96 hi hz0 hz1 hz2 rfl (by decide) (.slice Ao (ns).length co) (ns).length _ rfl hown ⟨bs, os, sp⟩ (ms).length c2 (strs ms) rfl (by simp [strs]) HCell.out ?c2 ?c3 ?c4 ?c5 ?_)
            case c2 =>
              intro u hu
              obtain ⟨x, _, rfl⟩ := List.mem_map.1 hu
              rfl
            case c3 => unfold maxLen; (try simp); omega
            case c4 => (try simp); omega
            case c5 => exact hO.size
            intro v' w4 hown' hgrow _
            have ho4 : Only [] w w4 := hO.grown hgrow (fun k hk => .inr (hown.lt k hk).1)
            have hown2 : w4.ownsRow w.heap.size 9 1 v' (ns ++ ms).length (strs (ns ++ ms)) := by
              rw [show strs (ns ++ ms) = strs (ns) ++ strs (ms) by simp [strs], List.length_append]
              first | exact hown' | simpa using hown'
            have HO2 := Lib.hid hown2
            clear hgrow hown' hown2
            go_wp2
            exact ⟨⟨2, by omega, rfl, ho4, by simpa using HO2.out⟩, by simp [intOf]⟩
        · go_wp2
          go_ret
          exact ⟨_, rfl, hown, hO⟩
end Go.Proofs.YteinoiicnmemhaaGreatDoor
/- States beside each other; the names of a state's map; contract: Copy. -/
set_option linter.unusedVariables false
set_option linter.unusedSimpArgs false
namespace Go.Proofs.YteinoiicnmemhaaGreatDoor
open Go.RowKit Go Go.Sort
/-- The names that a state's map holds: few, and short. -/
structure MS.Few (s : MS) (N : Nat) : Prop where
  len : s.m.length ≤ N
  short : ∀ p ∈ s.m, p.1.size ≤ 60
theorem few_new : MS.new.Few 0 := ⟨Nat.le_refl _, fun p hp => by cases hp⟩
theorem few_do {s : MS} {N : Nat} (h : s.Few N) (c : Cmd) : (s.do c).2.Few (N + 1) := by
  have hbase : ∀ t : MS, t.m = s.m → t.Few (N + 1) := fun t ht => ⟨by rw [ht]; exact Nat.le_succ_of_le h.len, by rw [ht]; exact h.short⟩
  by_cases hk : c.check = 0
  · by_cases hq : c.kind = 4 ∨ c.kind = 5
    · have e : (s.do c).2 = s.tick c.time := by
        unfold MS.do
        rw [if_neg (by simp [hk])]
        dsimp only
        rw [if_pos hq]
      rw [e]
      exact hbase _ rfl
    · have hn : nameOk c.stream = true := by
        unfold Cmd.check at hk
        split at hk
        · cases hk
        · rename_i q1
          split at hk
          · cases hk
          · rename_i q2
            cases hb : nameOk c.stream with
            | true => rfl
            | false => exact absurd ⟨by omega, hb⟩ q2
      have hsz : c.stream.size ≤ 60 := by
        simp [nameOk] at hn
        exact hn.1.2
      have hput : ∀ y, (aput s.m c.stream y).length ≤ N + 1 ∧ ∀ p ∈ aput s.m c.stream y, p.1.size ≤ 60 := fun y => by
        refine ⟨?_, fun p hp => ?_⟩
        · have := h.len
          rw [length_aput]
          split <;> omega
        · rcases aput_mem hp with rfl | hp
          · exact hsz
          · exact h.short p hp
      rcases do_shape s c with ⟨h1, _⟩ | ⟨y, h1, _⟩
      · exact hbase _ h1
      · exact ⟨by rw [h1]; exact (hput y).1, by rw [h1]; exact (hput y).2⟩
  · have e : (s.do c).2 = s := by
      unfold MS.do
      rw [if_pos (by simpa using hk)]
    rw [e]
    exact hbase _ rfl
section
variable {w w' : World} {M M' S : List Nat} {sb mb : Nat} {av : Value} {pf : ByteArray → Value} {s : MS}
/-- A state beside what turned; more blocks may turn from now on. -/
theorem StAt.beside (h : StAt w M sb mb av pf s) (k : Only S w w') (hS : ∀ g ∈ S, g ∈ M) (hd : ∀ g ∈ hM sb mb av, g ∉ S) (hM' : ∀ g ∈ M', g ∈ M ∨ w.heap.size ≤ g) (hin : ∀ g ∈ M, g ∈ M') (hlt : ∀ g ∈ M', g < w'.heap.size) : StAt w' M' sb mb av pf s := by
  refine ⟨k.blk h.blk (hd sb (by simp [hM])), own_only h.own k (fun g hg => hd g (by simp [hM, hg])), h.map.only k (hd mb (by simp [hM])), fun n x hx => ?_, ⟨hin _ h.inM.1, hin _ h.inM.2.1, fun g hg => hin _ (h.inM.2.2 g hg)⟩, hlt⟩
  exact ((h.pl n x hx).ext hM').only k (fun g hg => hin g (hS g hg))
theorem cloneMap_any {b : Nat} {kv : List (ByteArray × Value)} (h : MapIs Value.string w b kv) :
    Calls Tryz.prog 122 #[.map (some b)] w fun e w' => ∃ o, e = .returned (.map (some w.heap.size)) ∧ w' = w.alloc o ∧ MapIs Value.string w' w.heap.size kv := by
  obtain ⟨es, clock, hb, hs, hm⟩ := h
  refine (AnyW.maps_Clone Tryz.cloneM b es clock w hb).mono fun e w' ⟨he, hw⟩ => ?_
  subst hw
  exact ⟨_, he, rfl, es, clock, heap_alloc_new w _, hs, hm⟩
set_option maxRecDepth 100000 in
set_option maxHeartbeats 2000000 in
theorem copy_any (h : StAt w M sb mb av pf s) (hs : s.all.length ≤ 1000000) :
    Calls Tryz.prog 86 #[.pointer (some ⟨sb, 0, none⟩)] w fun e w' => ∃ sb' mb' av', e = .returned (.pointer (some ⟨sb', 0, none⟩)) ∧ StAt w' (hM sb' mb' av' ++ M) sb' mb' av' pf s ∧ (∀ g ∈ hM sb' mb' av', w.heap.size ≤ g ∧ g < w'.heap.size) ∧ Only [] w w' := by
  have hsl := (Slc.of_own h.own).1
  obtain ⟨A2, cap2, rfl, hnc2, hcm2, hel2⟩ := h.cell
  unfold maxLen at hcm2
  have hlb := h.blk.lt
  have c0 : w.cell? ⟨sb, 0, none⟩ = some (.slice A2 s.all.length cap2) := h.blk.cell 0
  have c1 : w.cell? ⟨sb, 1, none⟩ = some (.map (some mb)) := h.blk.cell 1
  have c2 : w.cell? ⟨sb, 2, none⟩ = some (.int .i64 s.done) := h.blk.cell 2
  have c3 : w.cell? ⟨sb, 3, none⟩ = some (.int .i64 s.now) := h.blk.cell 3
  have k0 := Kept.cell (a := w) (R := []) c0 (.inl hlb)
  have k1 := Kept.cell (a := w) (R := []) c1 (.inl hlb)
  have k2 := Kept.cell (a := w) (R := []) c2 (.inl hlb)
  have k3 := Kept.cell (a := w) (R := []) c3 (.inl hlb)
  have HC := Lib.hid (fun (W : World) (hW : Only [] w W) => cloneS_any (hsl.only0 hW) (by omega))
  have HM := Lib.hid (fun (W : World) (hW : Only [] w W) => cloneMap_any (h.map.only hW (by simp)))
  clear hel2 c0 c1 c2 c3 hsl
  go_enter Tryz.func86, Tryz.ntmps86
  go_wp2_with fail
  refine wp_region_stages (C := fun W => ∃ p : Kept w [] w, W = p.W) [([0, 1, 2, 3, 5, 6, 7, 8, 10, 11, 12, 13, 14, 15, 16, 17], [4, 9, 18, 19])] [20] (by kernel_rfl) (by kernel_rfl) (by intro c d u a w h; cases d <;> exact h) ⟨⟨_, (Keeps.refl _ _ _).drew⟩, rfl⟩ ?_
  refine stagesFirst ?_
  show wpQuiet _ _ _ _ [_, _, _, _, _, _, _, _, _, _, _, _, _, _, _, _] _
  repeat (go_big_quiet_step (fail))
  refine wpQuiet_nil ?_
  show wpList _ _ _ [_] _ _
  go_wp2_with (go_at_call 121; refine (HC.out _ (Only.refl _ _).drew).mono ?_; rintro e w2 ⟨v2, rfl, hown2, ho2⟩; obtain ⟨A3, cap3, rfl, _, _⟩ := own_form hown2)
  have hK : Keeps w [] w w2 := (Keeps.refl _ _ _).drew.then0 ho2
  refine check_kept hK ?_
  show wpList _ _ _ [_] _ _
  go_wp2_with (go_at_call 122; refine (HM.out _ ((Only.refl _ _).drew.trans ho2)).mono ?_; rintro e w3 ⟨o3, rfl, rfl, hm3⟩)
  refine check_kept (hK.alloc _) ?_
  show wpList _ _ _ [_] _ _
  go_wp2_with fail
  refine check_kept (hK.alloc _) ?_
  show wpList _ _ _ [_] _ _
  go_wp2_with fail
  refine check_kept ((hK.alloc _).alloc _) ?_
  refine stagesEnd ?_
  show wpList _ _ _ [_] _ _
  go_wp2
  go_ret
  have hO2 : Only [] w w2 := (Only.refl [] w).drew.trans ho2
  have hO3 : Only [] w (w2.alloc o3) := hO2.alloc o3
  have hz2 : w.heap.size ≤ w2.heap.size := hO2.size
  have hown3 : ((w2.alloc o3).alloc (.cells #[.slice A3 s.all.length cap3, .map (some w2.heap.size), .int .i64 s.done, .int .i64 s.now] 72)).ownsRow w.heap.size 92 8 (.slice A3 s.all.length cap3) s.all.length (s.all.flatMap StoredR.cells) :=
    own_only hown2 (((Only.refl [] w2).alloc _).alloc _) (by simp)
  have hfr : ∀ g ∈ hM (w2.heap.size + 1) w2.heap.size (.slice A3 s.all.length cap3), w.heap.size ≤ g ∧ g < w2.heap.size + 2 := by
    intro g hg
    simp only [hM, List.mem_cons, Option.mem_toList] at hg
    rcases hg with rfl | rfl | hg
    · omega
    · omega
    · have := hown2.lt g hg
      simp at this
      omega
  refine ⟨w2.heap.size + 1, w2.heap.size, .slice A3 s.all.length cap3, by simp, ?_, fun g hg => ?_, hO3.alloc _⟩
  · refine ⟨?_, own_base hown3 (Nat.zero_le _), hm3.only ((Only.refl [] _).alloc _) (by simp), fun n x hx => ?_, ⟨by simp [hM], by simp [hM], fun g hg => List.mem_append_left _ (by simp only [hM, List.mem_cons, Option.mem_toList]; exact .inr (.inr hg))⟩, fun g hg => ?_⟩
    · have := Blk.new (w2.alloc o3) 72 #[.slice A3 s.all.length cap3, .map (some w2.heap.size), .int .i64 s.done, .int .i64 s.now]
      simpa using this
    · refine ((h.pl n x hx).ext (M' := hM (w2.heap.size + 1) w2.heap.size (.slice A3 s.all.length cap3) ++ M) fun g hg => ?_).only0 (hO3.alloc _)
      rcases List.mem_append.1 hg with q | q
      · exact .inr (hfr g q).1
      · exact .inl q
    · rcases List.mem_append.1 hg with q | q
      · have := hfr g q
        simp
        omega
      · have := h.mlt g q
        simp
        omega
  · have := hfr g hg
    simp
    omega
end
end Go.Proofs.YteinoiicnmemhaaGreatDoor
/- Contract: Same, of two states in memory that are one and the same state. -/
set_option linter.unusedVariables false
set_option linter.unusedSimpArgs false
namespace Go.Proofs.YteinoiicnmemhaaGreatDoor
open Go.RowKit Go Go.Sort
theorem stagesDone3 {P : Program} {C : World → Prop} {Q : Exit → Act → World → Prop} {l : List Oper} {a : Act} {w : World} (h : Q .normal a w) : wpT1 P l.toArray C Q (opsAt l []) (wpStages P l C Q (fun a w => wpList P l.toArray Q (opsAt l []) a w) []) a w := h
section
variable {w : World} {M1 M2 : List Nat} {sb1 mb1 sb2 mb2 N : Nat} {av1 av2 : Value} {pf1 pf2 : ByteArray → Value} {s : MS}
end
end Go.Proofs.YteinoiicnmemhaaGreatDoor
/- Contract: Same, of any two states in memory. -/
set_option linter.unusedVariables false
set_option linter.unusedSimpArgs false
namespace Go.Proofs.YteinoiicnmemhaaGreatDoor
open Go.RowKit Go Go.MapKept Go.Maps Go.WideMaps Go.Sort
/-! ## plain -/
def MS.sameX (s t : MS) (n : ByteArray) : Bool := decide (s.floorS n = t.floorS n) && decide ((s.find n).deleted = (t.find n).deleted) && decide ((s.find n).mt.maxCount = (t.find n).mt.maxCount) && decide ((s.find n).mt.maxAge = (t.find n).mt.maxAge) && decide ((s.find n).mt.before = (t.find n).mt.before)
/-- When two states are the same. -/
def MS.sameQ (s t : MS) : Bool := decide (s.done = t.done) && decide (s.now = t.now) && sameLQ s.all t.all && (s.m.map (·.1) ++ t.m.map (·.1)).all (MS.sameX s t)
theorem all_mem {α : Type} {l m : List α} (h : ∀ x, x ∈ l ↔ x ∈ m) (f : α → Bool) : l.all f = m.all f := by
  rw [Bool.eq_iff_iff, List.all_eq_true, List.all_eq_true]
  exact ⟨fun q x hx => q x ((h x).2 hx), fun q x hx => q x ((h x).1 hx)⟩
theorem sameQ_refl (s : MS) : s.sameQ s = true := by
  unfold MS.sameQ
  rw [sameLQ_refl]
  simp [MS.sameX]
section
set_option maxHeartbeats 1000000 in
theorem collectP_any {w : World} {Bm b : Nat} {kv : List (ByteArray × Value)} (hc : w.cell? ⟨Bm, 0, none⟩ = some (.map (some b))) (h : MapIs Value.string w b kv) (hn : kv.length ≤ 1000000) (hs : ∀ p ∈ kv, p.1.size ≤ maxLen) :
    Calls Tryz.prog 35 #[.func (.func 75) #[] #[.pointer (some ⟨Bm, 0, none⟩)]] w fun e w' => ∃ v, ∃ ns : List ByteArray, e = .returned v ∧ w'.ownsRow w.heap.size 9 1 v ns.length (strs ns) ∧ ns.Perm (kv.map (·.1)) ∧ Only [] w w' := by
  obtain ⟨D0, hown, hperm, hsz⟩ := h.owns (P := Tryz.prog) (k := 9) Tryz.underlying9 (by unfold maxLen; omega) hs
  have hBm : Bm < w.heap.size := block_lt_of_cell hc
  have hseq : SeqGives Fence.wide 3 Tryz.prog 75 #[.pointer (some ⟨Bm, 0, none⟩)] encStr (fun ss => ss.Perm (strKeys D0)) (Maps.size D0) w :=
    AnyZ.keys_gives (ρ := Tryz.keys36_ren) { Tryz.keys36 with } Fence.wide _ trivial rfl (by omega) Bm b kv.length D0 _ hBm hc hown
  have hcol := callsIn_wide.1 (AnyZ.collect_in Tryz.collectK Fence.wide 5 trivial trivial rfl (by omega) 75 #[.pointer (some ⟨Bm, 0, none⟩)] trivial (enters_of Tryz.func75 (by kernel_rfl) rfl) _ _ (by rw [hsz]; unfold maxLen; omega) (by rw [hsz]; omega) w hseq)
  refine hcol.mono ?_
  rintro e w' ⟨v, ss, rfl, hS, hrow, _, hb⟩
  refine ⟨v, ss.map fun x => ⟨x.toArray⟩, rfl, ?_, ?_, Only.of_below hb (Nat.le_refl _)⟩
  · rw [strs_of] at hrow
    rw [List.length_map]
    exact hrow
  · have := (hS.trans hperm).map (fun x : List UInt8 => (⟨x.toArray⟩ : ByteArray))
    rw [List.map_map] at this
    exact this
end
section
variable {w : World} {M1 M2 : List Nat} {sb1 mb1 sb2 mb2 N N2 : Nat} {av1 av2 : Value} {pf1 pf2 : ByteArray → Value} {s t : MS}
theorem concatL_any {g : Nat} {v1 v2 : Value} {ns ms : List ByteArray} (hB : Blk w g 96 #[v1, v2]) (h1 : Slc w 1 v1 ns.length (strs ns)) (h2 : Slc w 1 v2 ms.length (strs ms)) (b1 : ns.length ≤ 1000000) (b2 : ms.length ≤ 1000000) :
    Calls Tryz.prog 34 #[.slice (some ⟨g, 0, none⟩) 2 2] w fun e w' => ∃ v, ∃ l : List ByteArray, e = .returned v ∧ w'.ownsRow w.heap.size 9 1 v l.length (strs l) ∧ Hid (l = ns ++ ms) ∧ l.length ≤ 2000000 ∧ Only [] w w' :=
  (concatS_any hB h1 h2 b1 b2).mono fun e w' ⟨v, q1, q2, q3⟩ => ⟨v, _, q1, q2, Lib.hid rfl, by rw [List.length_append]; omega, q3⟩
set_option maxRecDepth 100000 in
set_option maxHeartbeats 4000000 in
theorem sameQ_any (h1 : StAt w M1 sb1 mb1 av1 pf1 s) (h2 : StAt w M2 sb2 mb2 av2 pf2 t) (hs : s.Ok N) (hf : s.Few N) (hN : N ≤ 100000) (ht : t.Ok N2) (hf2 : t.Few N2) (hN2 : N2 ≤ 100000) :
    Calls Tryz.prog 12 #[.pointer (some ⟨sb1, 0, none⟩), .pointer (some ⟨sb2, 0, none⟩)] w fun e w' => e = .returned (.bool (s.sameQ t)) ∧ Only [] w w' := by
  have hal := hs.all
  have hal2 := ht.all
  have hml := hf.len
  have hml2 := hf2.len
  have hsl1 := (Slc.of_own h1.own).1
  have hsl2 := (Slc.of_own h2.own).1
  obtain ⟨A1, cap1, rfl, hnc1, hcm1, _⟩ := h1.cell
  obtain ⟨A2, cap2, rfl, hnc2, hcm2, _⟩ := h2.cell
  unfold maxLen at hcm1 hcm2
  have hb1 := h1.blk.lt
  have hb2 := h2.blk.lt
  have k0 := Kept.cell (a := w) (R := []) (h1.blk.cell 0) (.inl hb1)
  have k1 := Kept.cell (a := w) (R := []) (h1.blk.cell 1) (.inl hb1)
  have k2 := Kept.cell (a := w) (R := []) (h1.blk.cell 2) (.inl hb1)
  have k3 := Kept.cell (a := w) (R := []) (h1.blk.cell 3) (.inl hb1)
  have l0 := Kept.cell (a := w) (R := []) (h2.blk.cell 0) (.inl hb2)
  have l1 := Kept.cell (a := w) (R := []) (h2.blk.cell 1) (.inl hb2)
  have l2 := Kept.cell (a := w) (R := []) (h2.blk.cell 2) (.inl hb2)
  have l3 := Kept.cell (a := w) (R := []) (h2.blk.cell 3) (.inl hb2)
  have HEq := Lib.hid (fun (W : World) (hW : Only [] w W) => eqStQ_any (hsl1.only0 hW) (hsl2.only0 hW) (by omega) (by omega))
  have hkv : ∀ (u : MS) (K : Nat), u.Few K → ∀ (pf : ByteArray → Value), (∀ p ∈ u.m.map (fun p => (p.1, p.2.val (pf p.1))), p.1.size ≤ maxLen) := fun u K hu pf p hp => by
    obtain ⟨q, hq, rfl⟩ := List.mem_map.1 hp
    have := hu.short q hq
    unfold maxLen
    show q.1.size ≤ _
    omega
  have HC1 := Lib.hid (fun (W : World) (Bm : Nat) (hW : Only [] w W) (hc : W.cell? ⟨Bm, 0, none⟩ = some (.map (some mb1))) => collectP_any hc (h1.map.only hW (by simp)) (by simp; omega) (hkv s N hf pf1))
  have HC2 := Lib.hid (fun (W : World) (Bm : Nat) (hW : Only [] w W) (hc : W.cell? ⟨Bm, 0, none⟩ = some (.map (some mb2))) => collectP_any hc (h2.map.only hW (by simp)) (by simp; omega) (hkv t N2 hf2 pf2))
  have HF1 := Lib.hid (fun (W : World) (hW : Only [] w W) (n : ByteArray) => floorS_any (h1.only0 hW) hs hN n)
  have HF2 := Lib.hid (fun (W : World) (hW : Only [] w W) (n : ByteArray) => floorS_any (h2.only0 hW) ht hN2 n)
  have HD1 := Lib.hid (fun (W : World) (hW : Only [] w W) (n : ByteArray) => deletedS_any (h1.only0 hW) n)
  have HD2 := Lib.hid (fun (W : World) (hW : Only [] w W) (n : ByteArray) => deletedS_any (h2.only0 hW) n)
  have HM1 := Lib.hid (fun (W : World) (hW : Only [] w W) (n : ByteArray) => metaOfS_any (h1.only0 hW) n)
  have HM2 := Lib.hid (fun (W : World) (hW : Only [] w W) (n : ByteArray) => metaOfS_any (h2.only0 hW) n)
  have hkl1 : (s.m.map (fun p => (p.1, p.2.val (pf1 p.1)))).length ≤ 1000000 := by simp; omega
  have hkl2 : (t.m.map (fun p => (p.1, p.2.val (pf2 p.1)))).length ≤ 1000000 := by simp; omega
  clear hsl1 hsl2 hkv
  by_cases bd0 : s.done = t.done
  case neg =>
    have HR : Hid (s.sameQ t = false) := by unfold Hid MS.sameQ; rw [decide_eq_false bd0]; rfl
    have bd : (s.done != t.done) = true := by rw [bne_iff_ne]; exact bd0
    clear bd0 HC1 HC2 HF1 HF2 HD1 HD2 HM1 HM2 HEq
    go_enter Tryz.func12, Tryz.ntmps12
    go_wp2_with fail
    refine wp_region_stages (C := fun W => ∃ p : Kept w [] w, W = p.W) [([0, 1, 2, 3, 4, 5, 6, 7, 8, 9, 10, 11, 12, 13, 14, 15, 16, 17, 18, 19, 20, 21, 22, 23, 24, 25, 26, 27, 28], [])] [29, 30, 31] (by kernel_rfl) (by kernel_rfl) (by intro c d u a w h; cases d <;> exact h) ⟨⟨_, (Keeps.refl _ _ _).drew⟩, rfl⟩ ?_
    refine stagesFirst ?_
    show wpQuiet _ _ _ _ [_, _, _, _, _, _, _, _, _, _, _, _, _, _, _, _, _, _, _, _, _, _, _, _, _, _, _, _, _] _
    repeat (go_big_quiet_step (fail))
    refine wpQuiet_nil ?_
    refine stagesEnd ?_
    show wpList _ _ _ [_, _, _] _ _
    go_wp2
    go_ret
    exact ⟨ret_b (by rw [HR.out]), (Only.refl [] w).drew⟩
  by_cases bn0 : s.now = t.now
  case neg =>
    have HR : Hid (s.sameQ t = false) := by unfold Hid MS.sameQ; rw [decide_eq_false bn0]; simp
    have bd : (s.done != t.done) = false := by rw [bd0]; simp
    have bn : (s.now != t.now) = true := by rw [bne_iff_ne]; exact bn0
    clear bd0 bn0 HC1 HC2 HF1 HF2 HD1 HD2 HM1 HM2 HEq
    go_enter Tryz.func12, Tryz.ntmps12
    go_wp2_with fail
    refine wp_region_stages (C := fun W => ∃ p : Kept w [] w, W = p.W) [([0, 1, 2, 3, 4, 5, 6, 7, 8, 9, 10, 11, 12, 13, 14, 15, 16, 17, 18, 19, 20, 21, 22, 23, 24, 25, 26, 27, 28], [])] [29, 30, 31] (by kernel_rfl) (by kernel_rfl) (by intro c d u a w h; cases d <;> exact h) ⟨⟨_, (Keeps.refl _ _ _).drew⟩, rfl⟩ ?_
    refine stagesFirst ?_
    show wpQuiet _ _ _ _ [_, _, _, _, _, _, _, _, _, _, _, _, _, _, _, _, _, _, _, _, _, _, _, _, _, _, _, _, _] _
    repeat (go_big_quiet_step (fail))
    refine wpQuiet_nil ?_
    refine stagesEnd ?_
    show wpList _ _ _ [_, _, _] _ _
    go_wp2
    go_ret
    exact ⟨ret_b (by rw [HR.out]), (Only.refl [] w).drew⟩
  have bd : (s.done != t.done) = false := by rw [bd0]; simp
  have bn : (s.now != t.now) = false := by rw [bn0]; simp
  cases hq : sameLQ s.all t.all with
  | false =>
    have HR : Hid (s.sameQ t = false) := by unfold Hid MS.sameQ; rw [hq]; simp
    rw [hq] at HEq
    clear bd0 bn0 hq HC1 HC2 HF1 HF2 HD1 HD2 HM1 HM2
    go_enter Tryz.func12, Tryz.ntmps12
    go_wp2_with fail
    refine wp_region_stages (C := fun W => ∃ p : Kept w [] w, W = p.W) [([0, 1, 2, 3, 4, 5, 6, 7, 8, 9, 10, 11, 12, 13, 14, 15, 16, 17, 18, 19, 20, 21, 22, 23, 24, 25, 26, 27, 28], [])] [29, 30, 31] (by kernel_rfl) (by kernel_rfl) (by intro c d u a w h; cases d <;> exact h) ⟨⟨_, (Keeps.refl _ _ _).drew⟩, rfl⟩ ?_
    refine stagesFirst ?_
    show wpQuiet _ _ _ _ [_, _, _, _, _, _, _, _, _, _, _, _, _, _, _, _, _, _, _, _, _, _, _, _, _, _, _, _, _] _
    repeat (go_big_quiet_step (fail))
    refine wpQuiet_nil ?_
    refine stagesEnd ?_
    show wpList _ _ _ [_, _, _] _ _
    go_wp2_with (go_at_call 32; refine (HEq.out _ (Only.refl _ _).drew).mono ?_; rintro e w2 ⟨rfl, ho2⟩)
    go_ret
    exact ⟨ret_b (by rw [HR.out]), (Only.refl [] w).drew.trans ho2⟩
  | true =>
  have HR : Hid (s.sameQ t = (s.m.map (·.1) ++ t.m.map (·.1)).all (MS.sameX s t)) := by unfold Hid MS.sameQ; rw [hq, decide_eq_true bd0, decide_eq_true bn0]; rfl
  rw [hq] at HEq
  clear bd0 bn0 hq
  go_enter Tryz.func12, Tryz.ntmps12
  go_wp2_with fail
  refine wp_region_stages (C := fun W => ∃ p : Kept w [] w, W = p.W) [([0, 1, 2, 3, 4, 5, 6, 7, 8, 9, 10, 11, 12, 13, 14, 15, 16, 17, 18, 19, 20, 21, 22, 23, 24, 25, 26, 27, 28], [])] [29, 30, 31] (by kernel_rfl) (by kernel_rfl) (by intro c d u a w h; cases d <;> exact h) ⟨⟨_, (Keeps.refl _ _ _).drew⟩, rfl⟩ ?_
  refine stagesFirst ?_
  show wpQuiet _ _ _ _ [_, _, _, _, _, _, _, _, _, _, _, _, _, _, _, _, _, _, _, _, _, _, _, _, _, _, _, _, _] _
  repeat (go_big_quiet_step (fail))
  refine wpQuiet_nil ?_
  refine stagesEnd ?_
  show wpList _ _ _ [_, _, _] _ _
  skip
  go_wp2_with (go_at_call 32; refine (HEq.out _ (Only.refl _ _).drew).mono ?_; rintro e w2 ⟨rfl, ho2⟩)
  have hO2 : Only [] w w2 := (Only.refl [] w).drew.trans ho2
  have hlt2 : ∀ b, b < w.heap.size → b < w2.heap.size := fun b hb => Nat.lt_of_lt_of_le hb hO2.size
  have hx1 : w2.cell? ⟨sb1, 1, none⟩ = some (.map (some mb1)) := (hO2.blk h1.blk (by simp)).cell 1
  have hx2 : w2.cell? ⟨sb2, 1, none⟩ = some (.map (some mb2)) := (hO2.blk h2.blk (by simp)).cell 1
  have m1 := Kept.cell (a := w2) (R := []) hx1 (.inl (hlt2 _ hb1))
  have m2 := Kept.cell (a := w2) (R := []) hx2 (.inl (hlt2 _ hb2))
  clear k0 k1 k2 k3 l0 l1 l2 l3 HEq hx1 hx2 bd bn
  refine wp_region_stages (C := fun W => ∃ p : Kept w2 [] w2, W = p.W) [([0, 1, 2, 3, 6, 7, 8, 9, 15], [4, 5, 10, 11, 12, 13, 14])] [] (by kernel_rfl) (by kernel_rfl) (by intro c d u a w h; cases d <;> exact h) ⟨⟨_, (Keeps.refl _ _ _).drew⟩, rfl⟩ ?_
  refine stagesFirst ?_
  show wpQuiet _ _ _ _ [_, _, _, _, _, _, _, _, _] _
  repeat (go_big_quiet_step (fail))
  refine wpQuiet_nil ?_
  show wpList _ _ _ [_] _ _
  have hO3 : Only [] w w2.drew := hO2.drew
  obtain ⟨w3, hw3⟩ : ∃ w3, w3 = w2.drew := ⟨_, rfl⟩
  have hK3 : Keeps w2 [] w2 w3 := by rw [hw3]; exact (Keeps.refl _ _ _).drew
  rw [← hw3] at hO3 ⊢
  clear hw3
  go_wp2_with (go_at_call 36; refine (keysM_any _ _).mono ?_; rintro e w4 ⟨rfl, rfl⟩)
  have hO4 := hO3.alloc (.cells #[.map (some mb1)] 70)
  have hc4 : (w3.alloc (.cells #[.map (some mb1)] 70)).cell? ⟨w3.heap.size, 0, none⟩ = some (.map (some mb1)) := (Blk.new w3 70 #[.map (some mb1)]).cell 0
  have hK4 := hK3.alloc (.cells #[.map (some mb1)] 70)
  refine check_kept hK4 ?_
  show wpList _ _ _ [_] _ _
  go_wp2_with (go_at_call 35; refine (HC1.out _ _ hO4 hc4).mono ?_; rintro e w5 ⟨v5, ns1, rfl, hown5, hp5, ho5⟩; obtain ⟨A5, cap5, rfl, _, _⟩ := own_form hown5)
  have hO5 := hO4.trans ho5
  have hK5 := hK4.then0 ho5
  refine check_kept hK5 ?_
  show wpList _ _ _ [_] _ _
  go_wp2_with (go_at_call 36; refine (keysM_any _ _).mono ?_; rintro e w6 ⟨rfl, rfl⟩)
  have hO6 := hO5.alloc (.cells #[.map (some mb2)] 70)
  have hc6 : (w5.alloc (.cells #[.map (some mb2)] 70)).cell? ⟨w5.heap.size, 0, none⟩ = some (.map (some mb2)) := (Blk.new w5 70 #[.map (some mb2)]).cell 0
  have hK6 := hK5.alloc (.cells #[.map (some mb2)] 70)
  refine check_kept hK6 ?_
  show wpList _ _ _ [_] _ _
  go_wp2_with (go_at_call 35; refine (HC2.out _ _ hO6 hc6).mono ?_; rintro e w7 ⟨v7, ns2, rfl, hown7, hp7, ho7⟩; obtain ⟨A7, cap7, rfl, _, _⟩ := own_form hown7)
  have hO7 := hO6.trans ho7
  have hK7 := hK6.then0 ho7
  refine check_kept hK7 ?_
  show wpList _ _ _ [_] _ _
  go_wp2_with fail
  have hO8 := hO7.alloc (.cells #[.slice A5 ns1.length cap5, .slice A7 ns2.length cap7] 96)
  have hK8 := hK7.alloc (.cells #[.slice A5 ns1.length cap5, .slice A7 ns2.length cap7] 96)
  have hs5 := ((Slc.of_own hown5).1.only0 ((((Only.refl [] w5).alloc (.cells #[.map (some mb2)] 70)).trans ho7).alloc (.cells #[.slice A5 ns1.length cap5, .slice A7 ns2.length cap7] 96)))
  have hs7 := ((Slc.of_own hown7).1.only0 ((Only.refl [] w7).alloc (.cells #[.slice A5 ns1.length cap5, .slice A7 ns2.length cap7] 96)))
  have hB8 := Blk.new w7 96 #[.slice A5 ns1.length cap5, .slice A7 ns2.length cap7]
  have hl5 : ns1.length ≤ 1000000 := by rw [hp5.length_eq]; simp; omega
  have hl7 : ns2.length ≤ 1000000 := by rw [hp7.length_eq]; simp; omega
  have HCc := Lib.hid (concatL_any hB8 hs5 hs7 (by omega) (by omega))
  have HR2 : Hid (s.sameQ t = (ns1 ++ ns2).all (MS.sameX s t)) := by
    unfold Hid
    rw [HR.out]
    refine all_mem (fun x => ?_) _
    simp only [List.mem_append]
    rw [hp5.mem_iff, hp7.mem_iff, List.map_map, List.map_map]
    rfl
  clear HR hp5 hp7
  clear hs5 hs7 hB8 hown5 hown7 hc4 hc6 HC1 HC2 m1 m2
  refine check_kept hK8 ?_
  show wpList _ _ _ [_] _ _
  go_wp2_with (go_at_call 34; refine HCc.out.mono ?_; rintro e w9 ⟨v9, ns, rfl, hown9, hns, hlen, ho9⟩; obtain ⟨A9, cap9, rfl, _, _⟩ := own_form hown9)
  have hO9 := hO8.trans ho9
  refine check_kept (hK8.then0 ho9) ?_
  show wpList _ _ _ [_] _ _
  go_wp2_with fail
  refine check_kept (hK8.then0 ho9) ?_
  refine stagesDone3 ?_
  rw [← hns.out] at HR2
  clear hns
  have hs9 := (Slc.of_own hown9).1
  obtain ⟨_, _, e9, hnc9, hcm9, hel9⟩ := hs9.openS
  injection e9 with e91 e92 e93
  subst e91 e93
  unfold maxLen at hcm9
  clear hs9 hown9 HCc hK3 hK4 hK5 hK6 hK7 hK8 hl5 hl7
  go_wp2_with fail
  go_loopw [66] (fun i wr => ∃ k : Nat, k ≤ ns.length ∧ i = .int .i64 k ∧ Hid (s.sameQ t = (ns.drop k).all (MS.sameX s t)) ∧ Only [] w wr ∧ Only [] w9 wr) (fun i _ => ns.length - (intOf i).toNat)
  case atStart => exact ⟨0, Nat.zero_le _, rfl, HR2, hO9, Only.refl _ _⟩
  case round =>
    obtain ⟨k, hk, rfl, hT, hO, hO99⟩ := hrel
    by_cases hlt : k < ns.length
    · obtain ⟨b, off, rfl, hbb, hcc⟩ := hel9 k hlt
      have c0 := (hO99.cell hbb (by simp)).trans hcc
      have hd : (ns.drop k).all (MS.sameX s t) = (s.sameX t ns[k] && (ns.drop (k + 1)).all (MS.sameX s t)) := by rw [List.drop_eq_getElem_cons hlt]; rfl
      obtain ⟨n, hn⟩ : ∃ n, n = ns[k] := ⟨_, rfl⟩
      rw [← hn] at c0 hd
      have F1 := Lib.hid (fun (W : World) (hW : Only [] wr W) => HF1.out W (hO.trans hW) n)
      have F2 := Lib.hid (fun (W : World) (hW : Only [] wr W) => HF2.out W (hO.trans hW) n)
      have D1 := Lib.hid (fun (W : World) (hW : Only [] wr W) => HD1.out W (hO.trans hW) n)
      have D2 := Lib.hid (fun (W : World) (hW : Only [] wr W) => HD2.out W (hO.trans hW) n)
      have G1 := Lib.hid (fun (W : World) (hW : Only [] wr W) => HM1.out W (hO.trans hW) n)
      have G2 := Lib.hid (fun (W : World) (hW : Only [] wr W) => HM2.out W (hO.trans hW) n)
      have hX : s.sameX t n = (decide (s.floorS n = t.floorS n) && decide ((s.find n).deleted = (t.find n).deleted) && decide ((s.find n).mt.maxCount = (t.find n).mt.maxCount) && decide ((s.find n).mt.maxAge = (t.find n).mt.maxAge) && decide ((s.find n).mt.before = (t.find n).mt.before)) := rfl
      obtain ⟨fo, hfo⟩ : ∃ fo, fo = s.floorS n := ⟨_, rfl⟩
      obtain ⟨dl, hdl⟩ : ∃ dl, dl = (s.find n).deleted := ⟨_, rfl⟩
      obtain ⟨mt, hmt⟩ : ∃ mt, mt = (s.find n).mt := ⟨_, rfl⟩
      obtain ⟨fo2, hfo2⟩ : ∃ fo, fo = t.floorS n := ⟨_, rfl⟩
      obtain ⟨dl2, hdl2⟩ : ∃ dl, dl = (t.find n).deleted := ⟨_, rfl⟩
      obtain ⟨mt2, hmt2⟩ : ∃ mt, mt = (t.find n).mt := ⟨_, rfl⟩
      rw [← hfo] at F1 hX
      rw [← hfo2] at F2 hX
      rw [← hdl] at D1 hX
      rw [← hdl2] at D2 hX
      rw [← hmt] at G1 hX
      rw [← hmt2] at G2 hX
      obtain ⟨g1, g2, g3⟩ := mt
      obtain ⟨i1, i2, i3⟩ := mt2
      simp only [MetaR.val] at G1 G2
      dsimp only at hX
      have HX := Lib.hid hX
      have HDr := Lib.hid hd
      clear hel9 hcc hn hfo hdl hmt hfo2 hdl2 hmt2 HF1 HF2 HD1 HD2 HM1 HM2 hX hd HR2
      by_cases e1 : fo = fo2
      case neg =>
        have HN : Hid (s.sameQ t = false) := by unfold Hid; rw [hT.out, HDr.out, HX.out, decide_eq_false e1]; rfl
        have q1 : (fo != fo2) = true := by rw [bne_iff_ne]; exact e1
        clear e1 hT HDr HX
        go_wp2_with fail
        refine (F1.out _ (Only.refl _ _)).mono ?_
        rintro e wa ⟨rfl, hoa⟩
        go_wp2_with fail
        refine (F2.out _ hoa).mono ?_
        rintro e wb ⟨rfl, hob⟩
        have o2 := hoa.trans hob
        go_wp2_with fail
        go_ret
        exact ⟨ret_b (by rw [HN.out]), hO.trans o2⟩
      by_cases e2 : dl = dl2
      case neg =>
        have HN : Hid (s.sameQ t = false) := by unfold Hid; rw [hT.out, HDr.out, HX.out, decide_eq_false e2]; simp
        have q1 : (fo != fo2) = false := by rw [e1]; simp
        clear hT HDr HX
        cases dl <;> cases dl2
        case false.false => exact absurd rfl e2
        case true.true => exact absurd rfl e2
        all_goals
          clear e1 e2
          go_wp2_with fail
          refine (F1.out _ (Only.refl _ _)).mono ?_
          rintro e wa ⟨rfl, hoa⟩
          go_wp2_with fail
          refine (F2.out _ hoa).mono ?_
          rintro e wb ⟨rfl, hob⟩
          have o2 := hoa.trans hob
          go_wp2_with fail
          refine (D1.out _ o2).mono ?_
          rintro e wc ⟨rfl, hoc⟩
          have o3 := o2.trans hoc
          go_wp2_with fail
          refine (D2.out _ o3).mono ?_
          rintro e wd ⟨rfl, hod⟩
          have o4 := o3.trans hod
          go_wp2_with fail
          go_ret
          exact ⟨ret_b (by rw [HN.out]), hO.trans o4⟩
      have q1 : (fo != fo2) = false := by rw [e1]; simp
      have q2 : (dl != dl) = false := by simp
      subst e2
      by_cases e3 : g1 = i1 ∧ g2 = i2 ∧ g3 = i3
      case pos =>
        have HN : Hid (s.sameQ t = (ns.drop (k + 1)).all (MS.sameX s t)) := by
          unfold Hid
          rw [hT.out, HDr.out, HX.out, decide_eq_true e1, decide_eq_true e3.1, decide_eq_true e3.2.1, decide_eq_true e3.2.2]
          simp
        obtain ⟨rfl, rfl, rfl⟩ := e3
        clear e1 hT HDr HX
        go_wp2_with fail
        refine (F1.out _ (Only.refl _ _)).mono ?_
        rintro e wa ⟨rfl, hoa⟩
        go_wp2_with fail
        refine (F2.out _ hoa).mono ?_
        rintro e wb ⟨rfl, hob⟩
        have o2 := hoa.trans hob
        go_wp2_with fail
        refine (D1.out _ o2).mono ?_
        rintro e wc ⟨rfl, hoc⟩
        have o3 := o2.trans hoc
        go_wp2_with fail
        refine (D2.out _ o3).mono ?_
        rintro e wd ⟨rfl, hod⟩
        have o4 := o3.trans hod
        go_wp2_with fail
        refine (G1.out _ o4).mono ?_
        rintro e we ⟨rfl, hoe⟩
        have o5 := o4.trans hoe
        go_wp2_with fail
        refine (G2.out _ o5).mono ?_
        rintro e wf ⟨rfl, hof⟩
        have o6 := o5.trans hof
        go_wp2_with fail
        exact ⟨⟨k + 1, hlt, by simp, HN, hO.trans o6, hO99.trans o6⟩, by simp [intOf]; omega⟩
      case neg =>
        have HN : Hid (s.sameQ t = false) := by
          unfold Hid
          rw [hT.out, HDr.out, HX.out]
          by_cases z1 : g1 = i1
          · by_cases z2 : g2 = i2
            · rw [decide_eq_false (fun z3 => e3 ⟨z1, z2, z3⟩)]; simp
            · rw [decide_eq_false z2]; simp
          · rw [decide_eq_false z1]; simp
        have E3 := Lib.hid e3
        clear e1 e3 hT HDr HX
        go_wp2_with fail
        refine (F1.out _ (Only.refl _ _)).mono ?_
        rintro e wa ⟨rfl, hoa⟩
        go_wp2_with fail
        refine (F2.out _ hoa).mono ?_
        rintro e wb ⟨rfl, hob⟩
        have o2 := hoa.trans hob
        go_wp2_with fail
        refine (D1.out _ o2).mono ?_
        rintro e wc ⟨rfl, hoc⟩
        have o3 := o2.trans hoc
        go_wp2_with fail
        refine (D2.out _ o3).mono ?_
        rintro e wd ⟨rfl, hod⟩
        have o4 := o3.trans hod
        go_wp2_with fail
        refine (G1.out _ o4).mono ?_
        rintro e we ⟨rfl, hoe⟩
        have o5 := o4.trans hoe
        go_wp2_with fail
        refine (G2.out _ o5).mono ?_
        rintro e wf ⟨rfl, hof⟩
        have o6 := o5.trans hof
        go_wp2_with fail
        all_goals first
          | exact absurd ⟨by assumption, by assumption, by assumption⟩ E3.out
          | (go_ret; exact ⟨ret_b (by rw [HN.out]), hO.trans o6⟩)
    · clear hel9
      have HN : Hid (s.sameQ t = true) := by
        unfold Hid
        rw [hT.out, List.drop_of_length_le (by omega)]
        rfl
      go_wp2
      go_ret
      exact ⟨ret_b (by rw [HN.out]), hO⟩
end
end Go.Proofs.YteinoiicnmemhaaGreatDoor
/- A state and its copy: the one goes its own way, the other stays. -/
set_option linter.unusedVariables false
set_option linter.unusedSimpArgs false
namespace Go.Proofs.YteinoiicnmemhaaGreatDoor
open Go.RowKit Go Go.Sort
section
variable {a w w' : World} {R R' E : List Nat} {sb mb sc mc N : Nat} {s : MS}
/-- A state and its copy. -/
structure Pair (a w : World) (R E : List Nat) (sb mb sc mc : Nat) (s : MS) (N : Nat) : Prop where
  only : Only [] a w
  st : ∃ M av pf avc pfc, StAt w M sb mb av pf s ∧ StAt w M sc mc avc pfc s ∧ (∀ g ∈ M, a.heap.size ≤ g ∧ g ∉ E) ∧ (∀ g ∈ R, g ∈ M) ∧ (∀ g ∈ hM sb mb av, g ∉ R) ∧ (∀ g ∈ hM sc mc avc, g ∉ R) ∧ ∀ g ∈ hM sb mb av, g ∉ hM sc mc avc
  el : ∀ g ∈ E, g < w.heap.size
  ok : s.Ok N
  inv : s.Inv
  few : s.Few N
theorem Pair.keep (h : Pair a w R E sb mb sc mc s N) (k : Only [] w w') : Pair a w' R E sb mb sc mc s N := by
  obtain ⟨ho, ⟨M, av, pf, avc, pfc, q1, q2, q3⟩, hl, hk, hi, hf⟩ := h
  exact ⟨ho.trans k, ⟨M, av, pf, avc, pfc, q1.only0 k, q2.only0 k, q3⟩, fun g hg => Nat.lt_of_lt_of_le (hl g hg) k.size, hk, hi, hf⟩
theorem Pair.addE (h : Pair a w R E sb mb sc mc s N) (k : Only [] w w') {g : Nat} (h1 : w.heap.size ≤ g) (h2 : g < w'.heap.size) : Pair a w' R (g :: E) sb mb sc mc s N := by
  obtain ⟨ho, ⟨M, av, pf, avc, pfc, q1, q2, q3, q4⟩, hl, hk, hi, hf⟩ := h
  refine ⟨ho.trans k, ⟨M, av, pf, avc, pfc, q1.only0 k, q2.only0 k, fun i hi => ⟨(q3 i hi).1, fun q => ?_⟩, q4⟩, fun i hi => ?_, hk, hi, hf⟩
  · rcases List.mem_cons.1 q with rfl | q
    · have := q1.mlt i hi
      omega
    · exact (q3 i hi).2 q
  · rcases List.mem_cons.1 hi with rfl | hi
    · exact h2
    · exact Nat.lt_of_lt_of_le (hl i hi) k.size
end
end Go.Proofs.YteinoiicnmemhaaGreatDoor
/- The program's state, the document's, and the book, beside each other. -/
set_option linter.unusedVariables false
set_option linter.unusedSimpArgs false
namespace Go.Proofs.YteinoiicnmemhaaGreatDoor
open Go.RowKit Go Go.Sort
structure Like (s : MS) (r : RS) (N : Nat) : Prop where
  alike : Alike s r
  inv2 : s.Inv2
  few : s.Few N
  slen : r.s.length ≤ 3 * N
theorem Like.did {s : MS} {r : RS} {N : Nat} (h : Like s r N) (hi : s.Inv) (ho : s.Ok N) (c : Cmd) : Like (s.do c).2 (r.do c).2 (N + 1) :=
  ⟨(alike_do h.alike hi h.inv2 ho c).2, inv2_do hi h.inv2 c, few_do h.few c, by have := do_slen r c; have := h.slen; omega⟩
section
variable {a w w' w0 w1 w2 w3 w4 : World} {X X' H Hk E E' : List Nat} {sb mb sc mc rb kb N N' : Nat} {s s' : MS} {r r' : RS}
end
end Go.Proofs.YteinoiicnmemhaaGreatDoor
/- Contracts: what a node without entries tells. -/
set_option linter.unusedVariables false
set_option linter.unusedSimpArgs false
namespace Go.Proofs.YteinoiicnmemhaaGreatDoor
open Go.RowKit Go Go.Sort
/-- A node that has no entries. -/
def NodeN (w : World) (nb : Nat) : Prop := ∃ (db : Nat) (id nodes : Int) (lb sb smb : Nat), Blk w nb 160 (nodeC 1 (-1) (10 + id) db id nodes (.pointer (some ⟨lb, 0, none⟩)) 0 (-1) sb) ∧ NewAt w sb smb
section
variable {w w' : World} {nb : Nat}
theorem NodeN.keep0 (h : NodeN w nb) (k : Only [] w w') : NodeN w' nb := by
  obtain ⟨db, id, nodes, lb, sb, smb, h1, h2⟩ := h
  exact ⟨db, id, nodes, lb, sb, smb, k.blk h1 (by simp), h2.only k (by simp) (by simp)⟩
set_option maxRecDepth 100000 in
theorem nnone_any (h : NodeN w nb) : Calls Tryz.prog 119 #[.pointer (some ⟨nb, 0, none⟩)] w fun e w' => e = .returned (.bool false) ∧ w' = w := by
  obtain ⟨db, id, nodes, lb, sb, smb, h1, h2⟩ := h
  unfold nodeC at h1
  have hc := fun i => h1.cell i
  go_enter Tryz.func119, Tryz.ntmps119
  go_wp2
  go_ret
  exact ⟨rfl, rfl⟩
set_option maxRecDepth 100000 in
theorem nstate_any (h : NodeN w nb) : Calls Tryz.prog 83 #[.pointer (some ⟨nb, 0, none⟩)] w fun e w' => e = .returned (.int .i64 1) ∧ w' = w := by
  have HN := Lib.hid (nnone_any h)
  obtain ⟨db, id, nodes, lb, sb, smb, h1, h2⟩ := h
  unfold nodeC at h1
  have hc := fun i => h1.cell i
  go_enter Tryz.func83, Tryz.ntmps83
  go_wp2_with (go_at_call 119; refine HN.out.mono ?_; rintro e w1 ⟨rfl, rfl⟩)
  go_ret
  exact ⟨rfl, rfl⟩
set_option maxRecDepth 100000 in
theorem ncommit_any (h : NodeN w nb) : Calls Tryz.prog 47 #[.pointer (some ⟨nb, 0, none⟩)] w fun e w' => e = .returned (.int .i64 0) ∧ w' = w := by
  obtain ⟨db, id, nodes, lb, sb, smb, h1, h2⟩ := h
  unfold nodeC at h1
  have hc := fun i => h1.cell i
  go_enter Tryz.func47, Tryz.ntmps47
  go_wp2
  go_ret
  exact ⟨rfl, rfl⟩
set_option maxRecDepth 100000 in
theorem neps_nil (w : World) : Calls Tryz.prog 148 #[.slice none 0 0] w fun e w' => e = .returned (.slice none 0 0) ∧ w' = w := by
  go_enter Tryz.func148, Tryz.ntmps148
  go_wp2_with fail
  go_loopw [3, 8] (fun ov iv wr => ov = .slice none 0 0 ∧ iv = .int .i64 0 ∧ wr = w) (fun _ _ _ => 0)
  case atStart => exact ⟨rfl, rfl, rfl⟩
  case round =>
    obtain ⟨rfl, rfl, hwr⟩ := hrel
    have hwr' := hwr.symm
    subst hwr'
    go_wp2
    go_ret
    exact ⟨rfl, rfl⟩
set_option maxRecDepth 100000 in
theorem nepochs_any (h : NodeN w nb) : Calls Tryz.prog 123 #[.pointer (some ⟨nb, 0, none⟩)] w fun e w' => e = .returned (.slice none 0 0) ∧ w' = w := by
  have HN := Lib.hid (neps_nil w)
  obtain ⟨db, id, nodes, lb, sb, smb, h1, h2⟩ := h
  unfold nodeC at h1
  have hc := fun i => h1.cell i
  go_enter Tryz.func123, Tryz.ntmps123
  go_wp2_with (go_at_call 148; refine HN.out.mono ?_; rintro e w1 ⟨rfl, rfl⟩)
  go_ret
  exact ⟨rfl, rfl⟩
set_option maxRecDepth 100000 in
theorem nlen_any (h : NodeN w nb) : Calls Tryz.prog 87 #[.pointer (some ⟨nb, 0, none⟩)] w fun e w' => e = .returned (.int .i64 0) ∧ w' = w := by
  have HN := Lib.hid (nepochs_any h)
  go_enter Tryz.func87, Tryz.ntmps87
  go_wp2_with (go_at_call 123; refine HN.out.mono ?_; rintro e w1 ⟨rfl, rfl⟩)
  go_ret
  exact ⟨rfl, rfl⟩
set_option maxRecDepth 100000 in
theorem nentries_any (h : NodeN w nb) (n : Int) : Calls Tryz.prog 46 #[.pointer (some ⟨nb, 0, none⟩), .int .i64 0, .int .i64 n] w fun e w' => e = .returned (.slice none 0 0) ∧ w' = w := by
  have HN := Lib.hid (nlen_any h)
  go_enter Tryz.func46, Tryz.ntmps46
  go_wp2_with fail
  go_loopw [7, 8] (fun ov iv wr => ov = .slice none 0 0 ∧ iv = .int .i64 0 ∧ wr = w) (fun _ _ _ => 0)
  case atStart => exact ⟨rfl, rfl, rfl⟩
  case round =>
    obtain ⟨rfl, rfl, hwr⟩ := hrel
    have hwr' := hwr.symm
    subst hwr'
    go_wp2_with (go_at_call 87; refine HN.out.mono ?_; rintro e w1 ⟨rfl, rfl⟩)
    go_ret
    exact ⟨rfl, rfl⟩
/-- The model is copied. -/
theorem nmodel_any (h : NodeN w nb) : Calls Tryz.prog 45 #[.pointer (some ⟨nb, 0, none⟩)] w fun e w' => ∃ sb mb av M, e = .returned (.pointer (some ⟨sb, 0, none⟩)) ∧ StAt w' M sb mb av (fun _ => .slice none 0 0) MS.new ∧ Only [] w w' := by
  obtain ⟨db, id, nodes, lb, sb, smb, h1, h2⟩ := h
  have HC := Lib.hid (copy_any (h2.st (fun _ => .slice none 0 0)) (by simp [MS.new]))
  unfold nodeC at h1
  have hc := fun i => h1.cell i
  clear h2
  go_enter Tryz.func45, Tryz.ntmps45
  go_wp2_with (go_at_call 86; refine HC.out.mono ?_; rintro e w1 ⟨sc, mc, avc, rfl, hs, hM, k1⟩)
  go_ret
  exact ⟨sc, mc, avc, _, rfl, hs, k1⟩
end
end Go.Proofs.YteinoiicnmemhaaGreatDoor
/- Contracts: audit.Judge of any entries; agree of two nodes without entries. -/
set_option linter.unusedVariables false
set_option linter.unusedSimpArgs false
namespace Go.Proofs.YteinoiicnmemhaaGreatDoor
open Go.RowKit Go Go.Sort
/-- An entry of a log: a command with its epoch. -/
structure EntV where
  ep : Int
  x : CmdV
def EntV.cells (e : EntV) : List Value := [.int .i64 e.ep, .int .i64 e.x.c.kind, .int .i64 e.x.c.time, .string e.x.c.stream, .int .i64 e.x.c.expected, e.x.ev, .int .i64 e.x.c.mt.maxCount, .int .i64 e.x.c.mt.maxAge, .int .i64 e.x.c.mt.before]
/-- What entries make. -/
def runE (s : MS) (l : List EntV) : MS := l.foldl (fun s e => (s.do e.x.c).2) s
theorem runE_take (s : MS) (l : List EntV) {k : Nat} (h : k < l.length) : runE s (l.take (k + 1)) = ((runE s (l.take k)).do l[k].x.c).2 := by
  unfold runE
  rw [List.take_succ_eq_append_getElem h, List.foldl_append]
  rfl
theorem few_runE : ∀ (l : List EntV) (s : MS) (N : Nat), s.Few N → (runE s l).Few (N + l.length)
  | [], s, N, h => h
  | e :: l, s, N, h => by
    have := few_runE l (s.do e.x.c).2 (N + 1) (few_do h e.x.c)
    show (runE (s.do e.x.c).2 l).Few _
    rw [List.length_cons, Nat.add_comm l.length 1, ← Nat.add_assoc]
    exact this
section
variable {w w' : World} {na nb : Nat}
set_option maxRecDepth 100000 in
theorem nagree_any (ha : NodeN w na) (hb : NodeN w nb) : Calls Tryz.prog 44 #[.pointer (some ⟨na, 0, none⟩), .pointer (some ⟨nb, 0, none⟩)] w fun e w' => e = .returned (.bool true) ∧ w' = w := by
  have S1 := Lib.hid (nstate_any ha)
  have C1 := Lib.hid (ncommit_any ha)
  have C2 := Lib.hid (ncommit_any hb)
  have E1 := Lib.hid (nentries_any ha 0)
  have E2 := Lib.hid (nentries_any hb 0)
  go_enter Tryz.func44, Tryz.ntmps44
  go_wp2_with fail
  refine S1.out.mono ?_
  rintro e w1 ⟨rfl, rfl⟩
  go_wp2_with fail
  refine C1.out.mono ?_
  rintro e w1 ⟨rfl, rfl⟩
  go_wp2_with fail
  refine C2.out.mono ?_
  rintro e w1 ⟨rfl, rfl⟩
  go_wp2_with fail
  refine E1.out.mono ?_
  rintro e w1 ⟨rfl, rfl⟩
  go_wp2_with fail
  refine E2.out.mono ?_
  rintro e w1 ⟨rfl, rfl⟩
  rename World => wz
  go_wp2_with fail
  go_loopw [39] (fun iv wr => iv = .int .i64 0 ∧ wr = wz) (fun _ _ => 0)
  case atStart => exact ⟨rfl, rfl⟩
  case round =>
    obtain ⟨rfl, hwr⟩ := hrel
    have hwr' := hwr.symm
    subst hwr'
    go_wp2
    go_ret
    exact ⟨rfl, rfl⟩
variable {M : List Nat} {sb mb N : Nat} {av v : Value} {pf : ByteArray → Value} {t : MS} {l : List EntV}
set_option maxRecDepth 100000 in
set_option maxHeartbeats 2000000 in
theorem judge_any (h : StAt w M sb mb av pf t) (ht : t.Ok N) (hf : t.Few N) (hN : N ≤ 100000) (he : Slc w 9 v l.length (l.flatMap EntV.cells)) (hl : l.length ≤ 1000)
    (hc : ∀ e ∈ l, CmdOk e.x.c ∧ Slc w 4 e.x.ev e.x.c.events.length (e.x.c.events.flatMap EventR.cells) ∧ ∀ g, e.x.ev.ownBlock = some g → g < w.heap.size ∨ e.x.c.events = []) :
    Calls Tryz.prog 11 #[.pointer (some ⟨sb, 0, none⟩), v] w fun e w' => e = .returned (.bool ((runE MS.new l).sameQ t)) ∧ Only [] w w' := by
  obtain ⟨A, cap, rfl, hnc, hcm, hel⟩ := he.openE EntV.cells (fun _ => rfl)
  unfold maxLen at hcm
  have HC := Lib.hid hc
  have Hel := Lib.hid hel
  have HT := Lib.hid h
  have HN0 := Lib.hid (has_newS w w (Only.refl _ _) [] (by simp))
  clear he hc hel h
  go_enter Tryz.func11, Tryz.ntmps11
  go_wp2_with fail
  refine HN0.out.mono ?_
  rintro e w1 ⟨rfl, hs1, k1⟩
  obtain ⟨s1, hs⟩ : ∃ s1, w.heap.size + 1 = s1 := ⟨_, rfl⟩
  obtain ⟨m1, hm⟩ : ∃ m1, w.heap.size = m1 := ⟨_, rfl⟩
  have hs2 : HasS w w1 [] [] s1 m1 MS.new 0 := by rw [← hs, ← hm]; exact hs1
  rw [hs]
  have HS0 := Lib.hid hs2
  clear hs1 hs2 hs hm HN0
  go_wp2_with fail
  go_loopw [11] (fun iv wr => ∃ k : Nat, k ≤ l.length ∧ iv = .int .i64 k ∧ Hid (HasS w wr [] [] s1 m1 (runE MS.new (l.take k)) k)) (fun iv _ => l.length - (intOf iv).toNat)
  case atStart => exact ⟨0, Nat.zero_le _, rfl, HS0⟩
  case round =>
    obtain ⟨k, hk, rfl, hS⟩ := hrel
    have hO := hS.out.only
    by_cases hlt : k < l.length
    · obtain ⟨b, off, rfl, hbb, hcc⟩ := Hel.out k hlt
      have hnx := runE_take MS.new l hlt
      obtain ⟨x, hx⟩ : ∃ x, l[k] = x := ⟨_, rfl⟩
      have hxm : x ∈ l := by rw [← hx]; exact List.getElem_mem hlt
      rw [hx] at hcc hnx
      obtain ⟨c1, c2, c3⟩ := HC.out x hxm
      obtain ⟨Ax, capx, hxv, hx1, hx2, _⟩ := c2.openE EventR.cells (fun _ => rfl)
      have hcl : ∀ i, wr.cell? ⟨b, off + k * 9 + i, none⟩ = w.cell? ⟨b, off + k * 9 + i, none⟩ := fun i => hO.cell hbb (by simp)
      have d0 : wr.cell? ⟨b, off + k * 9, none⟩ = some (.int .i64 x.ep) := (hcl 0).trans (hcc 0 (by omega))
      have d1 : wr.cell? ⟨b, off + k * 9 + 1, none⟩ = some (.int .i64 x.x.c.kind) := (hcl 1).trans (hcc 1 (by omega))
      have d2 : wr.cell? ⟨b, off + k * 9 + 2, none⟩ = some (.int .i64 x.x.c.time) := (hcl 2).trans (hcc 2 (by omega))
      have d3 : wr.cell? ⟨b, off + k * 9 + 3, none⟩ = some (.string x.x.c.stream) := (hcl 3).trans (hcc 3 (by omega))
      have d4 : wr.cell? ⟨b, off + k * 9 + 4, none⟩ = some (.int .i64 x.x.c.expected) := (hcl 4).trans (hcc 4 (by omega))
      have d5 : wr.cell? ⟨b, off + k * 9 + 5, none⟩ = some (.slice Ax x.x.c.events.length capx) := (hcl 5).trans ((hcc 5 (by omega)).trans (by rw [← hxv]; rfl))
      have d6 : wr.cell? ⟨b, off + k * 9 + 6, none⟩ = some (.int .i64 x.x.c.mt.maxCount) := (hcl 6).trans (hcc 6 (by omega))
      have d7 : wr.cell? ⟨b, off + k * 9 + 7, none⟩ = some (.int .i64 x.x.c.mt.maxAge) := (hcl 7).trans (hcc 7 (by omega))
      have d8 : wr.cell? ⟨b, off + k * 9 + 8, none⟩ = some (.int .i64 x.x.c.mt.before) := (hcl 8).trans (hcc 8 (by omega))
      have e9 := IntWalk.i64_in ((k : Int) + 1) ⟨by omega, by omega⟩
      have hsf := stF
      have HDo := Lib.hid (fun (o : Obj) => show Calls Tryz.prog 9 #[.pointer (some ⟨s1, 0, none⟩), .agg #[.int .i64 x.x.c.kind, .int .i64 x.x.c.time, .string x.x.c.stream, .int .i64 x.x.c.expected, .slice Ax x.x.c.events.length capx, .int .i64 x.x.c.mt.maxCount, .int .i64 x.x.c.mt.maxAge, .int .i64 x.x.c.mt.before]] (wr.alloc o) fun e w' => (∃ v, e = .returned v) ∧ HasS w w' [] [] s1 m1 ((runE MS.new (l.take k)).do x.x.c).2 (k + 1) from
        (has_do (c := x.x.c) (hS.out.keep ((Only.refl _ _).alloc o)) (by omega) c1 ⟨by rw [← hxv]; exact c2.only0 (hO.trans ((Only.refl _ _).alloc o)), fun g hg => by rw [← hxv] at hg; exact (c3 g hg).imp .inl (fun q => by rw [q]; rfl)⟩).mono fun e w' ⟨q1, q2, q3⟩ => ⟨⟨_, q1⟩, q2⟩)
      rw [← hnx] at HDo
      clear hcl hcc hnx hx c1 c2 c3 hS
      go_wp2_with fail
      refine (HDo.out _).mono ?_
      rintro e w3 ⟨⟨v3, rfl⟩, hs3⟩
      have HS3 := Lib.hid hs3
      clear hs3 HDo d0 d1 d2 d3 d4 d5 d6 d7 d8
      go_wp2
      exact ⟨⟨k + 1, hlt, by simp, HS3⟩, by simp [intOf]; omega⟩
    · have hkl : l.take k = l := List.take_of_length_le (by omega)
      have hS2 := hS.out
      rw [hkl] at hS2
      have hff : (runE MS.new l).Few l.length := by
        have := few_runE l MS.new 0 few_new
        rwa [Nat.zero_add] at this
      have hkk : l.length = k := by omega
      rw [hkk] at hff
      obtain ⟨M2, av2, pf2, q1, q2, q3, q4⟩ := hS2.st
      have HQ := Lib.hid (sameQ_any q1 (HT.out.only0 hO) hS2.ok hff (by omega) ht hf hN)
      clear hS2 hS q1 q2 q3 q4 hff hkl
      go_wp2_with fail
      refine HQ.out.mono ?_
      rintro e w3 ⟨rfl, k3⟩
      go_wp2
      go_ret
      exact ⟨rfl, hO.trans k3⟩
end
end Go.Proofs.YteinoiicnmemhaaGreatDoor
/- Explain, plain: when answers are those of entries, in order. -/
set_option linter.unusedVariables false
set_option linter.unusedSimpArgs false
namespace Go.Proofs.YteinoiicnmemhaaGreatDoor
open Go.RowKit Go Go.Sort
structure ReqV where
  x : CmdV
  read : Bool
  all : Bool
  fr : Int
  n : Int
  back : Bool
structure DoneV where
  nd : Int
  id : Int
  req : ReqV
  rid : Int
  place : Int
  ans : Ans
  pg : PageR
  pv : Value
  asked : Int
  answered : Int
def sameELQ : List EventR → List EventR → Bool
  | [], [] => true
  | x :: l, y :: m => sameEQ x y && sameELQ l m
  | _, _ => false
theorem sameELQ_drop {l m : List EventR} {k : Nat} (h1 : k < l.length) (h2 : k < m.length) : sameELQ (l.drop k) (m.drop k) = (sameEQ l[k] m[k] && sameELQ (l.drop (k + 1)) (m.drop (k + 1))) := by
  rw [List.drop_eq_getElem_cons h1, List.drop_eq_getElem_cons h2]
  rfl
theorem sameELQ_len : ∀ (l m : List EventR), l.length ≠ m.length → sameELQ l m = false
  | [], [], h => absurd rfl h
  | [], _ :: _, _ => rfl
  | _ :: _, [], _ => rfl
  | x :: l, y :: m, h => by
    simp only [sameELQ, sameELQ_len l m (by simpa using h), Bool.and_false]
def sameCQ (a b : Cmd) : Bool := decide (a.kind = b.kind) && decide (a.time = b.time) && decide (a.stream.toList = b.stream.toList) && decide (a.expected = b.expected) && decide (a.mt = b.mt) && sameELQ a.events b.events
def sameC0 (a b : Cmd) : Bool := sameCQ { a with time := 0 } { b with time := 0 }
def samePQ (p q : PageR) : Bool := decide (p.next = q.next) && (p.isEnd == q.isEnd) && sameLQ p.events q.events
def readQ (s : MS) (q : ReqV) : PageR × Int := if q.all then pageBy StoredR.position s.seenAll q.fr q.n q.back else s.readP q.x.c.stream q.fr q.n q.back
def rightF (s : MS) (c : Cmd) (a : Ans) (d : DoneV) : Bool :=
  if d.req.read then decide (c.kind = 4) && decide (({ a with err := (readQ s d.req).2 } : Ans) = d.ans) && samePQ (readQ s d.req).1 d.pg
  else sameC0 c d.req.x.c && decide (a = d.ans)
/-- The last answer that is told of a place. -/
def atD (l : List DoneV) (k : Int) : Option DoneV := l.foldl (fun o d => if d.place = k then some d else o) none
def pairF (a b : DoneV) : Bool := decide (a.place = b.place) || (decide (a.answered < b.asked) && decide (b.place < a.place))
def OrderedP (l : List DoneV) : Prop := ∀ i j (hi : i < l.length) (hj : j < l.length), i ≠ j → pairF l[i] l[j] = false
def toldF (l : List DoneV) : List DoneV := l.filter (fun d => decide (0 ≤ d.place))
def RightAt (es : List EntV) (k : Nat) (h : k < es.length) (d : DoneV) : Prop := rightF (runE MS.new (es.take (k + 1))) es[k].x.c ((runE MS.new (es.take k)).do es[k].x.c).1 d = true
structure ExplainP (es : List EntV) (ds : List DoneV) : Prop where
  inside : ∀ d ∈ ds, d.place < es.length
  right : ∀ k (h : k < es.length) d, atD (toldF ds) k = some d → RightAt es k h d
  ord : OrderedP (toldF ds)
open Classical in
noncomputable def orderedF (l : List DoneV) : Bool := decide (OrderedP l)
open Classical in
noncomputable def explainF (es : List EntV) (ds : List DoneV) : Bool := decide (ExplainP es ds)
open Classical in
theorem orderedF_true {l : List DoneV} (h : OrderedP l) : orderedF l = true := by unfold orderedF; exact decide_eq_true h
open Classical in
theorem orderedF_false {l : List DoneV} (h : ¬ OrderedP l) : orderedF l = false := by unfold orderedF; exact decide_eq_false h
open Classical in
theorem explainF_true {es : List EntV} {ds : List DoneV} (h : ExplainP es ds) : explainF es ds = true := by unfold explainF; exact decide_eq_true h
open Classical in
theorem explainF_false {es : List EntV} {ds : List DoneV} (h : ¬ ExplainP es ds) : explainF es ds = false := by unfold explainF; exact decide_eq_false h
theorem atD_snoc (l : List DoneV) (d : DoneV) (k : Int) : atD (l ++ [d]) k = if d.place = k then some d else atD l k := by
  unfold atD
  rw [List.foldl_append]
  rfl
theorem atD_go (k : Int) : ∀ (l : List DoneV) (o : Option DoneV) (d : DoneV), l.foldl (fun o d => if d.place = k then some d else o) o = some d → (d ∈ l ∧ d.place = k) ∨ o = some d
  | [], o, d, h => .inr h
  | x :: l, o, d, h => by
    rcases atD_go k l _ d h with q | q
    · exact .inl ⟨List.mem_cons_of_mem _ q.1, q.2⟩
    · dsimp only at q
      split at q
      · rename_i y
        injection q with q
        subst q
        exact .inl ⟨List.mem_cons_self, y⟩
      · exact .inr q
theorem atD_mem {l : List DoneV} {k : Int} {d : DoneV} (h : atD l k = some d) : d ∈ l ∧ d.place = k := (atD_go k l none d h).resolve_right (by simp)
theorem toldF_snoc (l : List DoneV) (d : DoneV) : toldF (l ++ [d]) = if 0 ≤ d.place then toldF l ++ [d] else toldF l := by
  unfold toldF
  rw [List.filter_append]
  by_cases h : 0 ≤ d.place
  · rw [if_pos h]; simp [h]
  · rw [if_neg h]; simp [h]
theorem mem_told {l : List DoneV} {d : DoneV} : d ∈ toldF l ↔ d ∈ l ∧ 0 ≤ d.place := by
  unfold toldF
  rw [List.mem_filter]
  simp
/-! ## entries with their answers -/
structure LayOk (es : List EntV) (ds : List DoneV) : Prop where
  len : es.length = ds.length
  place : ∀ k (h : k < ds.length), ds[k].place = (k : Int)
  right : ∀ k (h : k < ds.length), RightAt es k (by omega) ds[k]
  asc : ∀ j k (hj : j < k) (h : k < ds.length), ds[j].answered < ds[k].asked
  self : ∀ k (h : k < ds.length), ds[k].asked < ds[k].answered
theorem RightAt.take {es : List EntV} {e : EntV} {k : Nat} {h : k < es.length} {d : DoneV} (q : RightAt es k h d) : RightAt (es ++ [e]) k (by simp; omega) d := by
  unfold RightAt at q ⊢
  rw [List.take_append_of_le_length (by omega), List.take_append_of_le_length (by omega), List.getElem_append_left h]
  exact q
section
variable {es : List EntV} {ds : List DoneV}
theorem LayOk.inj (h : LayOk es ds) {d : DoneV} {k : Nat} (hd : d ∈ ds) (hp : d.place = k) : ∃ hk : k < ds.length, ds[k] = d := by
  obtain ⟨i, hi, rfl⟩ := List.mem_iff_getElem.1 hd
  rw [h.place i hi] at hp
  have : i = k := by omega
  subst this
  exact ⟨hi, rfl⟩
theorem LayOk.pair (h : LayOk es ds) {i j : Nat} (hi : i < ds.length) (hj : j < ds.length) (hne : i ≠ j) : pairF ds[i] ds[j] = false := by
  unfold pairF
  rw [h.place i hi, h.place j hj]
  have h1 : ((i : Int) = j) = False := by simp; omega
  rw [show decide ((i : Int) = j) = false from decide_eq_false (by omega), Bool.false_or, Bool.and_eq_false_iff]
  by_cases q : (j : Int) < i
  · left
    have := h.asc j i (by omega) hi
    have := h.self i hi
    have := h.self j hj
    exact decide_eq_false (by omega)
  · right
    exact decide_eq_false q
/-- Told in whatever order. -/
theorem LayOk.perm (h : LayOk es ds) {l : List DoneV} (hp : l.Perm ds) : ExplainP es l := by
  have hm : ∀ d, d ∈ l → d ∈ ds := fun d q => hp.mem_iff.1 q
  have hpl : ∀ d ∈ ds, 0 ≤ d.place := fun d q => by
    obtain ⟨i, hi, rfl⟩ := List.mem_iff_getElem.1 q
    rw [h.place i hi]
    omega
  have ht : toldF l = l := by
    unfold toldF
    rw [List.filter_eq_self]
    intro d q
    simp [hpl d (hm d q)]
  refine ⟨fun d q => ?_, fun k hk d q => ?_, ?_⟩
  · obtain ⟨i, hi, rfl⟩ := List.mem_iff_getElem.1 (hm d q)
    rw [h.place i hi, h.len]
    omega
  · rw [ht] at q
    obtain ⟨q1, q2⟩ := atD_mem q
    obtain ⟨hk', rfl⟩ := h.inj (hm d q1) q2
    exact h.right k hk'
  · rw [ht]
    have hnd : ds.Nodup := by
      unfold List.Nodup
      rw [List.pairwise_iff_getElem]
      intro i j hi hj hij q
      have h1 := h.place i hi
      have h2 := h.place j hj
      rw [q, h2] at h1
      omega
    have hnl : l.Nodup := hp.nodup_iff.2 hnd
    intro i j hi hj hne
    obtain ⟨i', hi', e1⟩ := List.mem_iff_getElem.1 (hm _ (List.getElem_mem hi))
    obtain ⟨j', hj', e2⟩ := List.mem_iff_getElem.1 (hm _ (List.getElem_mem hj))
    rw [← e1, ← e2]
    refine h.pair hi' hj' (fun q => ?_)
    subst q
    rw [e1] at e2
    unfold List.Nodup at hnl
    rw [List.pairwise_iff_getElem] at hnl
    rcases Nat.lt_or_gt_of_ne hne with q | q
    · exact hnl i j hi hj q e2
    · exact hnl j i hj hi q e2.symm
theorem not_ord {l : List DoneV} (hE : ExplainP es l) (ht : toldF l = l) {i j : Nat} (hi : i < l.length) (hj : j < l.length) (hne : i ≠ j) : pairF l[i] l[j] = false := by
  have := hE.ord
  unfold OrderedP at this
  rw [ht] at this
  exact this i j hi hj hne
theorem LayOk.twice (h : LayOk es ds) {j : Nat} (hj : j < ds.length) : ¬ ExplainP es (ds ++ [ds[j]]) := by
  intro hE
  have ht : toldF (ds ++ [ds[j]]) = ds ++ [ds[j]] := by
    unfold toldF
    rw [List.filter_eq_self]
    intro y q
    have : y ∈ ds := by
      rcases List.mem_append.1 q with q | q
      · exact q
      · simp at q; subst q; exact List.getElem_mem hj
    obtain ⟨i, hi, rfl⟩ := List.mem_iff_getElem.1 this
    simp [h.place i hi]
  have := not_ord hE ht (i := j) (j := ds.length) (by simp; omega) (by simp) (by omega)
  rw [List.getElem_append_left hj] at this
  simp [pairF] at this
/-- One that was asked behind another one's answer, and stands ahead of it. -/
theorem LayOk.behind (h : LayOk es ds) {k j : Nat} (hkj : k < j) (hj : j < ds.length) {x y : DoneV} (hx : x.place = (j : Int)) (hy : y.place = (k : Int)) (hlt : x.answered < y.asked) : ¬ ExplainP es ((ds.set j x).set k y) := by
  intro hE
  have ht : toldF ((ds.set j x).set k y) = (ds.set j x).set k y := by
    unfold toldF
    rw [List.filter_eq_self]
    intro z q
    rcases List.mem_or_eq_of_mem_set q with q | rfl
    · rcases List.mem_or_eq_of_mem_set q with q | rfl
      · obtain ⟨i, hi, rfl⟩ := List.mem_iff_getElem.1 q
        simp [h.place i hi]
      · simp [hx]
    · simp [hy]
  have := not_ord hE ht (i := j) (j := k) (by simp; omega) (by simp; omega) (by omega)
  rw [List.getElem_set_ne (by omega), List.getElem_set_self, List.getElem_set_self] at this
  unfold pairF at this
  rw [hx, hy, decide_eq_true hlt, show decide ((k : Int) < j) = true from decide_eq_true (by omega)] at this
  simp at this
end
end Go.Proofs.YteinoiicnmemhaaGreatDoor
/- Contracts: event.Same, audit.same, view.SamePage of any two. -/
set_option linter.unusedVariables false
set_option linter.unusedSimpArgs false
namespace Go.Proofs.YteinoiicnmemhaaGreatDoor
open Go.RowKit Go Go.Sort
set_option maxRecDepth 100000 in
set_option maxHeartbeats 2000000 in
theorem eqEvQ_any {w : World} {v1 v2 : Value} {l m : List EventR} (h1 : Slc w 4 v1 l.length (l.flatMap EventR.cells)) (h2 : Slc w 4 v2 m.length (m.flatMap EventR.cells)) (hbl : l.length ≤ 1000000) (hbm : m.length ≤ 1000000) :
    Calls Tryz.prog 120 #[v1, v2, .func (.func 72) #[] #[]] w fun e w' => e = .returned (.bool (sameELQ l m)) ∧ Only [] w w' := by
  obtain ⟨A1, cap1, rfl, hn1, hc1, hel1⟩ := h1.openE EventR.cells (fun _ => rfl)
  obtain ⟨A2, cap2, rfl, hn2, hc2, hel2⟩ := h2.openE EventR.cells (fun _ => rfl)
  unfold maxLen at hc1 hc2
  clear h1 h2
  by_cases hlm : l.length = m.length
  · have hb : ((l.length : Int) != m.length) = false := by rw [hlm]; simp
    have HLM := Lib.hid hlm
    have hR : Hid (sameELQ l m = sameELQ (l.drop 0) (m.drop 0)) := rfl
    clear hlm
    go_enter Tryz.func120, Tryz.ntmps120
    go_wp2
    go_loopw [17] (fun i wr => ∃ k : Nat, k ≤ l.length ∧ i = .int .i64 k ∧ Hid (sameELQ l m = sameELQ (l.drop k) (m.drop k)) ∧ Only [] w wr) (fun i _ => l.length - (intOf i).toNat)
    case atStart => exact ⟨0, Nat.zero_le _, rfl, hR, Only.refl _ _⟩
    case round =>
      obtain ⟨k, hk, rfl, hT, hO⟩ := hrel
      by_cases hlt : k < l.length
      · have hlt2 : k < m.length := by rw [← HLM.out]; exact hlt
        obtain ⟨b1, off1, rfl, hb1, hcc1⟩ := hel1 k hlt
        obtain ⟨b2, off2, rfl, hb2, hcc2⟩ := hel2 k hlt2
        have hd := sameELQ_drop hlt hlt2
        obtain ⟨x, hx⟩ : ∃ x, x = l[k] := ⟨_, rfl⟩
        obtain ⟨y, hy⟩ : ∃ y, y = m[k] := ⟨_, rfl⟩
        rw [← hx] at hcc1 hd
        rw [← hy] at hcc2 hd
        have c0 : wr.cell? ⟨b1, off1 + k * 4, none⟩ = some (.int .i64 x.id) := (hO.cell hb1 (by simp)).trans (hcc1 0 (by omega))
        have c1 : wr.cell? ⟨b1, off1 + k * 4 + 1, none⟩ = some (.string x.type) := (hO.cell hb1 (by simp)).trans (hcc1 1 (by omega))
        have c2 : wr.cell? ⟨b1, off1 + k * 4 + 2, none⟩ = some (.string x.data) := (hO.cell hb1 (by simp)).trans (hcc1 2 (by omega))
        have c3 : wr.cell? ⟨b1, off1 + k * 4 + 3, none⟩ = some (.float .f64 x.value) := (hO.cell hb1 (by simp)).trans (hcc1 3 (by omega))
        have kk : ∀ (o : Obj) (r : Nat) u, (y.cells)[r]? = some u → r < 4 → (wr.alloc o).cell? ⟨b2, off2 + k * 4 + r, none⟩ = some u := fun o r u hu hr => (((hO.alloc o).cell hb2 (by simp)).trans (hcc2 r hr)).trans hu
        have d0 : ∀ o, (wr.alloc o).cell? ⟨b2, off2 + k * 4, none⟩ = some (.int .i64 y.id) := fun o => kk o 0 _ rfl (by omega)
        have d1 : ∀ o, (wr.alloc o).cell? ⟨b2, off2 + k * 4 + 1, none⟩ = some (.string y.type) := fun o => kk o 1 _ rfl (by omega)
        have d2 : ∀ o, (wr.alloc o).cell? ⟨b2, off2 + k * 4 + 2, none⟩ = some (.string y.data) := fun o => kk o 2 _ rfl (by omega)
        have d3 : ∀ o, (wr.alloc o).cell? ⟨b2, off2 + k * 4 + 3, none⟩ = some (.float .f64 y.value) := fun o => kk o 3 _ rfl (by omega)
        have HS := Lib.hid (fun W => esameQ_any x y W)
        have hsf := stF
        have hki : (k : Int) < m.length := by omega
        clear hcc1 hcc2 hx hy hel1 hel2 kk
        cases hs : sameEQ x y with
        | true =>
          rw [hs] at HS
          have HN : Hid (sameELQ l m = sameELQ (l.drop (k + 1)) (m.drop (k + 1))) := by unfold Hid; rw [hT.out, hd, hs, Bool.true_and]
          clear hd hs hT
          go_wp2_with (go_at_call 72; refine (HS.out _).mono ?_; rintro e w1 ⟨rfl, ho1⟩)
          exact ⟨⟨k + 1, hlt, by simp, HN, ((hO.alloc _).alloc _).trans ho1⟩, by simp [intOf]; omega⟩
        | false =>
          rw [hs] at HS
          have HN : Hid (sameELQ l m = false) := by unfold Hid; rw [hT.out, hd, hs, Bool.false_and]
          clear hd hs hT
          go_wp2_with (go_at_call 72; refine (HS.out _).mono ?_; rintro e w1 ⟨rfl, ho1⟩)
          go_ret
          exact ⟨ret_b (by rw [HN.out]), ((hO.alloc _).alloc _).trans ho1⟩
      · have HN : Hid (sameELQ l m = true) := by
          unfold Hid
          rw [hT.out, List.drop_of_length_le (by omega), List.drop_of_length_le (by have := HLM.out; omega)]
          rfl
        clear hel1 hel2
        go_wp2
        go_ret
        exact ⟨ret_b (by rw [HN.out]), hO⟩
  · have hb : ((l.length : Int) != m.length) = true := by rw [bne_iff_ne]; omega
    have HN : Hid (sameELQ l m = false) := sameELQ_len l m hlm
    clear hlm hel1 hel2
    go_enter Tryz.func120, Tryz.ntmps120
    go_wp2
    go_ret
    exact ⟨ret_b (by rw [HN.out]), Only.refl _ _⟩
set_option maxRecDepth 100000 in
set_option maxHeartbeats 4000000 in
theorem esameC_any (k1 t1 : Int) (s1 : ByteArray) (x1 : Int) (l1 : List EventR) (a1 b1 d1 : Int) (k2 t2 : Int) (s2 : ByteArray) (x2 : Int) (l2 : List EventR) (a2 b2 d2 : Int) {w : World} {v1 v2 : Value}
    (h1 : Slc w 4 v1 l1.length (l1.flatMap EventR.cells)) (h2 : Slc w 4 v2 l2.length (l2.flatMap EventR.cells)) (hb1 : l1.length ≤ 1000000) (hb2 : l2.length ≤ 1000000) :
    Calls Tryz.prog 85 #[.agg #[.int .i64 k1, .int .i64 t1, .string s1, .int .i64 x1, v1, .int .i64 a1, .int .i64 b1, .int .i64 d1], .agg #[.int .i64 k2, .int .i64 t2, .string s2, .int .i64 x2, v2, .int .i64 a2, .int .i64 b2, .int .i64 d2]] w fun e w' =>
      e = .returned (.bool (sameCQ ⟨k1, t1, s1, x1, l1, ⟨a1, b1, d1⟩⟩ ⟨k2, t2, s2, x2, l2, ⟨a2, b2, d2⟩⟩)) ∧ Only [] w w' := by
  have HE := Lib.hid (fun (W : World) (k : Only [] w W) => eqEvQ_any (h1.only0 k) (h2.only0 k) hb1 hb2)
  obtain ⟨A1, c1, rfl⟩ : ∃ A1 c1, v1 = .slice A1 l1.length c1 := by obtain ⟨A1, c1, q, _⟩ := h1.openE EventR.cells (fun _ => rfl); exact ⟨A1, c1, q⟩
  obtain ⟨A2, c2, rfl⟩ : ∃ A2 c2, v2 = .slice A2 l2.length c2 := by obtain ⟨A2, c2, q, _⟩ := h2.openE EventR.cells (fun _ => rfl); exact ⟨A2, c2, q⟩
  clear h1 h2 hb1 hb2
  by_cases e1 : k1 = k2
  · by_cases e2 : t1 = t2
    · by_cases e3 : s1.toList = s2.toList
      · have q3 : (s1.toList == s2.toList) = true := by rw [beq_iff_eq]; exact e3
        by_cases e4 : x1 = x2
        · by_cases e5 : a1 = a2
          · by_cases e6 : b1 = b2
            · by_cases e7 : d1 = d2
              · go_enter Tryz.func85, Tryz.ntmps85
                go_wp2_with (go_at_call 120; refine (HE.out _ (((Only.refl [] w).alloc _).alloc _)).mono ?_; rintro e w1 ⟨rfl, ho1⟩)
                go_ret
                refine ⟨ret_b (by simp [sameCQ, e1, e2, e3, e4, e5, e6, e7]), ?_⟩
                first
                  | exact (((Only.refl [] w).alloc _).alloc _).trans ho1
                  | exact ((Only.refl [] w).alloc _).alloc _
              · go_enter Tryz.func85, Tryz.ntmps85
                go_wp2_with (go_at_call 120; refine (HE.out _ (((Only.refl [] w).alloc _).alloc _)).mono ?_; rintro e w1 ⟨rfl, ho1⟩)
                go_ret
                refine ⟨ret_b (by simp [sameCQ, e1, e2, e3, e4, e5, e6, e7]), ?_⟩
                first
                  | exact (((Only.refl [] w).alloc _).alloc _).trans ho1
                  | exact ((Only.refl [] w).alloc _).alloc _
            · go_enter Tryz.func85, Tryz.ntmps85
              go_wp2_with (go_at_call 120; refine (HE.out _ (((Only.refl [] w).alloc _).alloc _)).mono ?_; rintro e w1 ⟨rfl, ho1⟩)
              go_ret
              refine ⟨ret_b (by simp [sameCQ, e1, e2, e3, e4, e5, e6]), ?_⟩
              first
                | exact (((Only.refl [] w).alloc _).alloc _).trans ho1
                | exact ((Only.refl [] w).alloc _).alloc _
          · go_enter Tryz.func85, Tryz.ntmps85
            go_wp2_with (go_at_call 120; refine (HE.out _ (((Only.refl [] w).alloc _).alloc _)).mono ?_; rintro e w1 ⟨rfl, ho1⟩)
            go_ret
            refine ⟨ret_b (by simp [sameCQ, e1, e2, e3, e4, e5]), ?_⟩
            first
              | exact (((Only.refl [] w).alloc _).alloc _).trans ho1
              | exact ((Only.refl [] w).alloc _).alloc _
        · go_enter Tryz.func85, Tryz.ntmps85
          go_wp2_with (go_at_call 120; refine (HE.out _ (((Only.refl [] w).alloc _).alloc _)).mono ?_; rintro e w1 ⟨rfl, ho1⟩)
          go_ret
          refine ⟨ret_b (by simp [sameCQ, e1, e2, e3, e4]), ?_⟩
          first
            | exact (((Only.refl [] w).alloc _).alloc _).trans ho1
            | exact ((Only.refl [] w).alloc _).alloc _
      · have q3 : (s1.toList == s2.toList) = false := by rw [beq_eq_false_iff_ne]; exact e3
        go_enter Tryz.func85, Tryz.ntmps85
        go_wp2_with (go_at_call 120; refine (HE.out _ (((Only.refl [] w).alloc _).alloc _)).mono ?_; rintro e w1 ⟨rfl, ho1⟩)
        go_ret
        refine ⟨ret_b (by simp [sameCQ, e1, e2, e3]), ?_⟩
        first
          | exact (((Only.refl [] w).alloc _).alloc _).trans ho1
          | exact ((Only.refl [] w).alloc _).alloc _
    · go_enter Tryz.func85, Tryz.ntmps85
      go_wp2_with (go_at_call 120; refine (HE.out _ (((Only.refl [] w).alloc _).alloc _)).mono ?_; rintro e w1 ⟨rfl, ho1⟩)
      go_ret
      refine ⟨ret_b (by simp [sameCQ, e1, e2]), ?_⟩
      first
        | exact (((Only.refl [] w).alloc _).alloc _).trans ho1
        | exact ((Only.refl [] w).alloc _).alloc _
  · go_enter Tryz.func85, Tryz.ntmps85
    go_wp2_with (go_at_call 120; refine (HE.out _ (((Only.refl [] w).alloc _).alloc _)).mono ?_; rintro e w1 ⟨rfl, ho1⟩)
    go_ret
    refine ⟨ret_b (by simp [sameCQ, e1]), ?_⟩
    first
      | exact (((Only.refl [] w).alloc _).alloc _).trans ho1
      | exact ((Only.refl [] w).alloc _).alloc _
theorem sameC0_eq (k1 t1 : Int) (s1 : ByteArray) (x1 : Int) (l1 : List EventR) (a1 b1 d1 : Int) (k2 t2 : Int) (s2 : ByteArray) (x2 : Int) (l2 : List EventR) (a2 b2 d2 : Int) :
    sameC0 ⟨k1, t1, s1, x1, l1, ⟨a1, b1, d1⟩⟩ ⟨k2, t2, s2, x2, l2, ⟨a2, b2, d2⟩⟩ = sameCQ ⟨k1, 0, s1, x1, l1, ⟨a1, b1, d1⟩⟩ ⟨k2, 0, s2, x2, l2, ⟨a2, b2, d2⟩⟩ := rfl
set_option maxRecDepth 100000 in
set_option maxHeartbeats 4000000 in
theorem asame_any (k1 t1 : Int) (s1 : ByteArray) (x1 : Int) (l1 : List EventR) (a1 b1 d1 : Int) (k2 t2 : Int) (s2 : ByteArray) (x2 : Int) (l2 : List EventR) (a2 b2 d2 : Int) {w : World} {v1 v2 : Value}
    (h1 : Slc w 4 v1 l1.length (l1.flatMap EventR.cells)) (h2 : Slc w 4 v2 l2.length (l2.flatMap EventR.cells)) (hb1 : l1.length ≤ 1000000) (hb2 : l2.length ≤ 1000000) :
    Calls Tryz.prog 78 #[.agg #[.int .i64 k1, .int .i64 t1, .string s1, .int .i64 x1, v1, .int .i64 a1, .int .i64 b1, .int .i64 d1], .agg #[.int .i64 k2, .int .i64 t2, .string s2, .int .i64 x2, v2, .int .i64 a2, .int .i64 b2, .int .i64 d2]] w fun e w' =>
      e = .returned (.bool (sameC0 ⟨k1, t1, s1, x1, l1, ⟨a1, b1, d1⟩⟩ ⟨k2, t2, s2, x2, l2, ⟨a2, b2, d2⟩⟩)) ∧ Only [] w w' := by
  rw [sameC0_eq]
  have HE := Lib.hid (fun (W : World) (k : Only [] w W) => esameC_any k1 0 s1 x1 l1 a1 b1 d1 k2 0 s2 x2 l2 a2 b2 d2 (h1.only0 k) (h2.only0 k) hb1 hb2)
  obtain ⟨A1, c1, rfl⟩ : ∃ A1 c1, v1 = .slice A1 l1.length c1 := by obtain ⟨A1, c1, q, _⟩ := h1.openE EventR.cells (fun _ => rfl); exact ⟨A1, c1, q⟩
  obtain ⟨A2, c2, rfl⟩ : ∃ A2 c2, v2 = .slice A2 l2.length c2 := by obtain ⟨A2, c2, q, _⟩ := h2.openE EventR.cells (fun _ => rfl); exact ⟨A2, c2, q⟩
  clear h1 h2 hb1 hb2
  go_enter Tryz.func78, Tryz.ntmps78
  go_wp2_with fail
  refine (HE.out _ (((Only.refl [] w).alloc _).alloc _)).mono ?_
  rintro e w1 ⟨rfl, ho1⟩
  go_wp2_with fail
  go_ret
  exact ⟨rfl, (((Only.refl [] w).alloc _).alloc _).trans ho1⟩
set_option maxRecDepth 100000 in
set_option maxHeartbeats 4000000 in
theorem vsamePage_any (l1 l2 : List StoredR) (n1 n2 : Int) (e1 e2 : Bool) {w : World} {v1 v2 : Value}
    (h1 : Slc w 8 v1 l1.length (l1.flatMap StoredR.cells)) (h2 : Slc w 8 v2 l2.length (l2.flatMap StoredR.cells)) (hb1 : l1.length ≤ 1000000) (hb2 : l2.length ≤ 1000000) :
    Calls Tryz.prog 81 #[.agg #[v1, .int .i64 n1, .bool e1], .agg #[v2, .int .i64 n2, .bool e2]] w fun e w' =>
      e = .returned (.bool (samePQ ⟨l1, n1, e1⟩ ⟨l2, n2, e2⟩)) ∧ Only [] w w' := by
  have HE := Lib.hid (fun (W : World) (k : Only [] w W) => eqStQ_any (h1.only0 k) (h2.only0 k) hb1 hb2)
  obtain ⟨A1, c1, rfl⟩ : ∃ A1 c1, v1 = .slice A1 l1.length c1 := by obtain ⟨A1, c1, q, _⟩ := h1.openE StoredR.cells (fun _ => rfl); exact ⟨A1, c1, q⟩
  obtain ⟨A2, c2, rfl⟩ : ∃ A2 c2, v2 = .slice A2 l2.length c2 := by obtain ⟨A2, c2, q, _⟩ := h2.openE StoredR.cells (fun _ => rfl); exact ⟨A2, c2, q⟩
  clear h1 h2 hb1 hb2
  by_cases q1 : n1 = n2
  · cases e1 <;> cases e2
    · go_enter Tryz.func81, Tryz.ntmps81
      go_wp2_with (go_at_call 32; refine (HE.out _ (((Only.refl [] w).alloc _).alloc _)).mono ?_; rintro e w1 ⟨rfl, ho1⟩)
      go_ret
      refine ⟨ret_b (by simp [samePQ, q1]), ?_⟩
      first
        | exact (((Only.refl [] w).alloc _).alloc _).trans ho1
        | exact ((Only.refl [] w).alloc _).alloc _
    · go_enter Tryz.func81, Tryz.ntmps81
      go_wp2_with (go_at_call 32; refine (HE.out _ (((Only.refl [] w).alloc _).alloc _)).mono ?_; rintro e w1 ⟨rfl, ho1⟩)
      go_ret
      refine ⟨ret_b (by simp [samePQ, q1]), ?_⟩
      first
        | exact (((Only.refl [] w).alloc _).alloc _).trans ho1
        | exact ((Only.refl [] w).alloc _).alloc _
    · go_enter Tryz.func81, Tryz.ntmps81
      go_wp2_with (go_at_call 32; refine (HE.out _ (((Only.refl [] w).alloc _).alloc _)).mono ?_; rintro e w1 ⟨rfl, ho1⟩)
      go_ret
      refine ⟨ret_b (by simp [samePQ, q1]), ?_⟩
      first
        | exact (((Only.refl [] w).alloc _).alloc _).trans ho1
        | exact ((Only.refl [] w).alloc _).alloc _
    · go_enter Tryz.func81, Tryz.ntmps81
      go_wp2_with (go_at_call 32; refine (HE.out _ (((Only.refl [] w).alloc _).alloc _)).mono ?_; rintro e w1 ⟨rfl, ho1⟩)
      go_ret
      refine ⟨ret_b (by simp [samePQ, q1]), ?_⟩
      first
        | exact (((Only.refl [] w).alloc _).alloc _).trans ho1
        | exact ((Only.refl [] w).alloc _).alloc _
  · go_enter Tryz.func81, Tryz.ntmps81
    go_wp2_with (go_at_call 32; refine (HE.out _ (((Only.refl [] w).alloc _).alloc _)).mono ?_; rintro e w1 ⟨rfl, ho1⟩)
    go_ret
    refine ⟨ret_b (by simp [samePQ, q1]), ?_⟩
    first
      | exact (((Only.refl [] w).alloc _).alloc _).trans ho1
      | exact ((Only.refl [] w).alloc _).alloc _
end Go.Proofs.YteinoiicnmemhaaGreatDoor
/- Contract: cluster.New of two nodes. -/
set_option linter.unusedVariables false
set_option linter.unusedSimpArgs false
namespace Go.Proofs.YteinoiicnmemhaaGreatDoor
open Go.RowKit Go Go.Sort
theorem infoPl : (Tryz.prog.info? 128).map (fun i => (i.zero, i.size, i.bytes)) = some (some (.agg #[.pointer none, .pointer none, .slice none 0 0]), 3, 40) := by kernel_rfl
def plC (p : Nat × Nat) : List Value := [.pointer (some ⟨p.1, 0, none⟩), .pointer (some ⟨p.2, 0, none⟩), .slice none 0 0]
/-- A world of nodes that did nothing yet: l's row, and the nodes. -/
structure ClAt (b : Nat) (w : World) (wb : Nat) (v : Value) (ns : List (Nat × Nat)) : Prop where
  blk : ∃ net, Blk w wb 121 #[v, .pointer (some ⟨net, 0, none⟩), .int .i64 0, .int .i64 0, .slice none 0 0, .slice none 0 0]
  row : w.ownsRow b 128 3 v ns.length (ns.flatMap plC)
  ne : ∀ g, v.ownBlock = some g → g ≠ wb
  nod : ∀ p ∈ ns, NodeN w p.1 ∧ p.1 ≠ wb
section
variable {w w' : World} {b wb : Nat} {v : Value} {ns : List (Nat × Nat)}
theorem ClAt.keep0 (h : ClAt b w wb v ns) (k : Only [] w w') : ClAt b w' wb v ns := by
  obtain ⟨⟨net, h1⟩, h2, h3, h4⟩ := h
  exact ⟨⟨net, k.blk h1 (by simp)⟩, own_only h2 k (by simp), h3, fun p hp => ⟨(h4 p hp).1.keep0 k, (h4 p hp).2⟩⟩
theorem blk_ty {w : World} {g : Nat} {t u : TypeId} {cs ds : Array Value} (h : Blk w g t cs) (k : Blk w g u ds) : t = u := by
  have := h.symm.trans k
  injection this with this
  injection this
/-- A node stays while rows of places and worlds turn. -/
theorem NodeN.keepP {S : List Nat} {nb : Nat} (h : NodeN w nb) (k : Only S w w') (hS : ∀ g ∈ S, ∃ t cur, Blk w g t cur ∧ t ≠ 160 ∧ t ≠ 72) : NodeN w' nb := by
  obtain ⟨db, id, nodes, lb, sb, smb, h1, h2⟩ := h
  have hm := h2.map
  refine ⟨db, id, nodes, lb, sb, smb, k.blk h1 (fun q => ?_), h2.only k (fun q => ?_) (fun q => ?_)⟩
  · obtain ⟨t, cur, q1, q2, _⟩ := hS _ q
    exact q2 (blk_ty q1 h1)
  · obtain ⟨t, cur, q1, _, q2⟩ := hS _ q
    exact q2 (blk_ty q1 h2.blk)
  · obtain ⟨t, cur, q1, _⟩ := hS _ q
    exact hm.ne_blk q1 rfl
set_option maxRecDepth 100000 in
theorem wnew_any (w : World) : Calls Tryz.prog 48 #[] w fun e w' => ∃ net, e = .returned (.pointer (some ⟨net, 0, none⟩)) ∧ Only [] w w' := by
  have hmm := @run_makeMap Tryz.prog
  go_enter Tryz.func48, Tryz.ntmps48
  go_wp2
  go_ret
  exact ⟨_, rfl, ((Only.refl [] w).alloc _).alloc _⟩
set_option maxRecDepth 100000 in
set_option maxHeartbeats 4000000 in
theorem cnew2_any (hT : J.Tab w) : Calls Tryz.prog 19 #[.int .i64 2] w fun e w' => ∃ wb v ns, e = .returned (.tuple #[.pointer (some ⟨wb, 0, none⟩), .int .i64 0]) ∧ ClAt w.heap.size w' wb v ns ∧ ns.length = 2 ∧ Only [] w w' := by
  have HW := Lib.hid (fun (W : World) => wnew_any W)
  have HTab := Lib.hid hT
  clear hT
  go_enter Tryz.func19, Tryz.ntmps19
  go_wp2_with fail
  refine (HW.out _).mono ?_
  rintro e w1 ⟨net, rfl, k1⟩
  have hB1 := Blk.new w1 121 #[.slice none 0 0, .pointer (some ⟨net, 0, none⟩), .int .i64 0, .int .i64 0, .slice none 0 0, .slice none 0 0]
  have j1 := (Only.refl [] w1).alloc (.cells #[.slice none 0 0, .pointer (some ⟨net, 0, none⟩), .int .i64 0, .int .i64 0, .slice none 0 0, .slice none 0 0] 121)
  have hz1 := k1.size
  obtain ⟨wb, hwb⟩ : ∃ wb, w1.heap.size = wb := ⟨_, rfl⟩
  rw [hwb] at hB1 hz1
  have HC0 := Lib.hid (show ClAt w.heap.size _ wb (.slice none 0 0) [] from ⟨⟨net, hB1⟩, World.ownsRow_nil _ _ _ _, by simp [Value.ownBlock], by simp⟩)
  have HO0 := Lib.hid (k1.trans j1)
  clear hB1 j1 k1
  go_wp2_with fail
  try rw [hwb]
  clear hwb
  go_loopw [19] (fun iv wr => ∃ (k : Nat) (v : Value) (ns : List (Nat × Nat)), k ≤ 2 ∧ iv = .int .i64 k ∧ Hid (ns.length = k) ∧ Hid (ClAt w.heap.size wr wb v ns) ∧ Hid (Only [] w wr)) (fun iv _ => 2 - (intOf iv).toNat)
  case atStart => exact ⟨0, _, [], by omega, rfl, Lib.hid rfl, HC0, HO0⟩
  case round =>
    obtain ⟨k, v, ns, hk, rfl, hn, hC, hO⟩ := hrel
    by_cases hlt : k < 2
    · have hND := Lib.hid (J.new_any wr (room := 0) (by omega))
      have hki : (k : Int) < 2 := by omega
      have e9 := IntWalk.i64_in ((k : Int) + 1) ⟨by omega, by omega⟩
      go_wp2_with fail
      refine hND.out.mono ?_
      rintro e w2 ⟨rfl, hD, k2⟩
      have HNo := Lib.hid (nopen_new (J.Tab.only HTab.out hO.out) k2 hD ⟨by omega, by omega⟩ rfl (k : Int) 2 (by omega) (by omega) (by omega))
      have hl1 := hD.blk.lt
      clear hD hND
      go_wp2_with fail
      refine HNo.out.mono ?_
      rintro e w3 ⟨nb, lb, sb, smb, rfl, hnb, hBn, hSn, -, -, k3⟩
      have hnl := hBn.lt
      have k23 : Only [] wr w3 := k2.step k3 (fun i hi => by simp at hi; exact .inr (by omega))
      have hC3 := hC.out.keep0 k23
      have hO3 := hO.out.trans k23
      have hNd : NodeN w3 nb := ⟨_, _, _, _, _, _, hBn, hSn⟩
      have hz2 := k2.size
      obtain ⟨⟨net2, hb3⟩, hr3, hne, hnod⟩ := hC3
      have hwl : wb < wr.heap.size := by
        obtain ⟨⟨_, q⟩, _⟩ := hC.out
        exact q.lt
      have hrl := fun g hg => World.ownsRow.lt hr3 g hg
      obtain ⟨Av, cv, rfl, _, _⟩ := own_form hr3
      have hr4 := hr3.alloc (.cells (plC (nb, wr.heap.size + 1)).toArray 128)
      obtain ⟨A, cap, w5, hrun, hown, hO5, hfr⟩ := run_app (P := Tryz.prog) 119 119 w.heap.size 128 (.agg #[.pointer none, .pointer none, .slice none 0 0]) 3 40 Tryz.underlying119 infoPl rfl (by decide) hr4 (slc_new1 (w := w3) (e := 128) (size := 3) (cs := plC (nb, wr.heap.size + 1)) rfl) (by simp [plC, Value.oneCell']) (by have := hn.out; omega) (by have := hn.out; unfold maxLen; omega) (by have := hO3.size; simp; omega)
      have ka := (Only.refl [] w3).alloc (.cells (plC (nb, wr.heap.size + 1)).toArray 128)
      have hb4 := ka.blk hb3 (by simp)
      have hb5 := hO5.blk hb4 (by simp; exact fun q => hne _ q rfl)
      have hc3 := fun i => hb3.cell i
      have hc5 := fun i => hb5.cell i
      have hf5 := fun i => hb5.free i
      have hT5 : ∀ g ∈ (Value.slice Av ns.length cv).ownBlock.toList, ∃ t cur, Blk (w3.alloc (.cells (plC (nb, wr.heap.size + 1)).toArray 128)) g t cur ∧ t ≠ 160 ∧ t ≠ 72 := fun g hg => by
        obtain ⟨cur, q⟩ := own_type hr4 (by simpa using hg)
        exact ⟨_, cur, q, by decide, by decide⟩
      have hlen : (ns ++ [(nb, wr.heap.size + 1)]).length = ns.length + 1 := by simp
      have hFin := fun (kk : Only [wb] w5 (w5.setCell ⟨wb, 0, none⟩ (.slice A (ns.length + 1) cap))) => (show ClAt w.heap.size (w5.setCell ⟨wb, 0, none⟩ (.slice A (ns.length + 1) cap)) wb (.slice A (ns.length + 1) cap) (ns ++ [(nb, wr.heap.size + 1)]) from
        ⟨⟨net2, hb5.set 0 _⟩, by
          rw [hlen, List.flatMap_append]
          refine own_only (by simpa using hown) kk (fun g hg => ?_)
          simp
          rcases hfr g hg with q | q
          · exact hne g q
          · simp at q; omega, fun g hg => by
          rcases hfr g hg with q | q
          · exact hne g q
          · simp at q; omega, fun p hp => by
          have hsb : ∀ g ∈ [wb], ∃ t cur, Blk w5 g t cur ∧ t ≠ 160 ∧ t ≠ 72 := fun g hg => by
            simp at hg; subst hg
            exact ⟨_, _, hb5, by decide, by decide⟩
          rcases List.mem_append.1 hp with q | q
          · exact ⟨(((hnod p q).1.keep0 ka).keepP hO5 hT5).keepP kk hsb, (hnod p q).2⟩
          · simp at q; subst q
            exact ⟨((hNd.keep0 ka).keepP hO5 hT5).keepP kk hsb, by simp; omega⟩⟩)
      have HF := Lib.hid (hFin ((Only.refl _ _).setCell (.inl (by simp)) _))
      have HOF := Lib.hid (show Only [] w (w5.setCell ⟨wb, 0, none⟩ (.slice A (ns.length + 1) cap)) from ((hO3.trans ka).step hO5 (fun i hi => .inr (hrl i (by simpa using hi)).1)).setCell (.inr (by omega)) _)
      have HLen := Lib.hid (show (ns ++ [(nb, wr.heap.size + 1)]).length = k + 1 by rw [hlen, hn.out])
      rw [show (plC (nb, wr.heap.size + 1)).toArray = #[.pointer (some ⟨nb, 0, none⟩), .pointer (some ⟨wr.heap.size + 1, 0, none⟩), .slice none 0 0] from rfl] at hrun
      have HR := Lib.hid hrun
      clear hrun hFin hb3 hb4 hb5 hown hO5 hfr hr3 hr4 hT5 hlen hnod hNd hC hO hO3 hBn hSn hrl ka k2 k3 k23
      go_wp2_with (at_builtin; refine Lib.wpList_append_run _ rfl (.tmp 37) (.tmp 41) 119 119 rfl _ _ rfl rfl _ _ HR.out ?_)
      exact ⟨⟨k + 1, _, _, by omega, by simp, HLen, HF, HOF⟩, by simp [intOf]; omega⟩
    · have hk2 : k = 2 := by omega
      have hge : ¬ (k : Int) < 2 := by omega
      have HFin := Lib.hid (show ns.length = 2 by rw [hn.out, hk2])
      go_wp2_with fail
      go_ret2
      exact ⟨wb, rfl, v, ns, hC.out, HFin.out, hO.out⟩
end
end Go.Proofs.YteinoiicnmemhaaGreatDoor
/- Contracts: World.is, World.Node of a world that did nothing yet; Agree, Sound of no world. -/
set_option linter.unusedVariables false
set_option linter.unusedSimpArgs false
namespace Go.Proofs.YteinoiicnmemhaaGreatDoor
open Go.RowKit Go Go.Sort
section
variable {w w' : World} {b wb : Nat} {v : Value} {ns : List (Nat × Nat)}
set_option maxRecDepth 100000 in
theorem wis_any (h : ClAt b w wb v ns) (hl : ns.length = 2) (i : Nat) (hi : i ≤ 100) : Calls Tryz.prog 118 #[.pointer (some ⟨wb, 0, none⟩), .int .i64 i] w fun e w' => e = .returned (.bool (decide (i < 2))) ∧ w' = w := by
  obtain ⟨⟨net, h1⟩, h2, h3, h4⟩ := h
  obtain ⟨A, c, rfl, _, _⟩ := own_form h2
  rw [hl] at h1
  have hc := fun i => h1.cell i
  clear h2 h4 h3 h1
  by_cases hlt : i < 2
  · have q1 : decide ((i : Int) ≥ 0) = true := decide_eq_true (by omega)
    have q2 : decide ((i : Int) < 2) = true := decide_eq_true (by omega)
    rw [decide_eq_true hlt]
    clear hlt
    go_enter Tryz.func118, Tryz.ntmps118
    go_wp2
    go_ret
    exact ⟨rfl, rfl⟩
  · have q1 : decide ((i : Int) ≥ 0) = true := decide_eq_true (by omega)
    have q2 : decide ((i : Int) < 2) = false := decide_eq_false (by omega)
    rw [decide_eq_false hlt]
    clear hlt
    go_enter Tryz.func118, Tryz.ntmps118
    go_wp2
    go_ret
    exact ⟨rfl, rfl⟩
set_option maxRecDepth 100000 in
theorem wnode_some (h : ClAt b w wb v ns) (hl : ns.length = 2) (i : Nat) (hi : i < 2) : Calls Tryz.prog 82 #[.pointer (some ⟨wb, 0, none⟩), .int .i64 i] w fun e w' => e = .returned (.pointer (some ⟨(ns[i]'(by omega)).1, 0, none⟩)) ∧ w' = w := by
  have HI := Lib.hid (wis_any h hl i (by omega))
  rw [decide_eq_true hi] at HI
  have hlt : i < ns.length := by omega
  obtain ⟨⟨net, h1⟩, h2, h3, h4⟩ := h
  obtain ⟨A, c, rfl, hnc, hcm, hel⟩ := (Slc.of_own h2).1.openE plC (fun _ => rfl)
  unfold maxLen at hcm
  obtain ⟨g, off, rfl, hg, hcc⟩ := hel i hlt
  have d0 : w.cell? ⟨g, off + i * 3, none⟩ = some (.pointer (some ⟨ns[i].1, 0, none⟩)) := hcc 0 (by omega)
  obtain ⟨q, hq⟩ : ∃ q, ns[i].1 = q := ⟨_, rfl⟩
  rw [hq] at d0
  rw [hq]
  rw [hl] at h1 hnc
  have hc := fun i => h1.cell i
  have hki : (i : Int) < 2 := by omega
  clear h2 h4 h3 h1 hel hcc hq hlt
  go_enter Tryz.func82, Tryz.ntmps82
  go_wp2_with (go_at_call 118; refine HI.out.mono ?_; rintro e w1 ⟨rfl, rfl⟩)
  go_ret
  exact ⟨rfl, rfl⟩
set_option maxRecDepth 100000 in
theorem wnode_none (h : ClAt b w wb v ns) (hl : ns.length = 2) (i : Nat) (hi : 2 ≤ i) (h7 : i ≤ 100) : Calls Tryz.prog 82 #[.pointer (some ⟨wb, 0, none⟩), .int .i64 i] w fun e w' => e = .returned (.pointer none) ∧ w' = w := by
  have HI := Lib.hid (wis_any h hl i h7)
  rw [decide_eq_false (by omega)] at HI
  go_enter Tryz.func82, Tryz.ntmps82
  go_wp2_with (go_at_call 118; refine HI.out.mono ?_; rintro e w1 ⟨rfl, rfl⟩)
  go_ret
  exact ⟨rfl, rfl⟩
end
end Go.Proofs.YteinoiicnmemhaaGreatDoor
/- Contract: audit.nodes of a world that did nothing yet. -/
set_option linter.unusedVariables false
set_option linter.unusedSimpArgs false
namespace Go.Proofs.YteinoiicnmemhaaGreatDoor
open Go.RowKit Go Go.Sort
theorem infoNp : (Tryz.prog.info? 113).map (fun i => (i.zero, i.size, i.bytes)) = some (some (.pointer none), 1, 8) := by kernel_rfl
def ptrs (l : List (Nat × Nat)) : List Value := l.map fun p => .pointer (some ⟨p.1, 0, none⟩)
section
variable {w w' : World} {b wb : Nat} {v : Value} {ns : List (Nat × Nat)}
set_option maxRecDepth 100000 in
set_option maxHeartbeats 4000000 in
theorem anodes_any (h : ClAt b w wb v ns) (hl : ns.length = 2) : Calls Tryz.prog 43 #[.pointer (some ⟨wb, 0, none⟩)] w fun e w' => ∃ A c, e = .returned (.slice A 2 c) ∧ w'.ownsRow w.heap.size 113 1 (.slice A 2 c) 2 (ptrs ns) ∧ Only [] w w' := by
  have HS := Lib.hid (fun (W : World) (k : Only [] w W) (i : Nat) (hi : i < 2) (q : Nat × Nat) (hq : ns[i]? = some q) => show Calls Tryz.prog 82 #[.pointer (some ⟨wb, 0, none⟩), .int .i64 i] W fun e w' => e = .returned (.pointer (some ⟨q.1, 0, none⟩)) ∧ w' = W from by
    obtain ⟨_, rfl⟩ := List.getElem?_eq_some_iff.1 hq
    exact wnode_some (h.keep0 k) hl i hi)
  have HNo := Lib.hid (fun (W : World) (k : Only [] w W) (i : Nat) (hi : 2 ≤ i) (h7 : i ≤ 100) => wnode_none (h.keep0 k) hl i hi h7)
  have HL := Lib.hid hl
  have HR0 := Lib.hid (show w.ownsRow w.heap.size 113 1 (.slice none 0 0) (ns.take 0).length (ptrs (ns.take 0)) from World.ownsRow_nil _ _ _ _)
  clear h hl
  go_enter Tryz.func43, Tryz.ntmps43
  go_wp2_with fail
  go_loopw [3, 6] (fun ov iv wr => ∃ k : Nat, k ≤ 7 ∧ iv = .int .i64 k ∧ Hid (wr.ownsRow w.heap.size 113 1 ov (ns.take k).length (ptrs (ns.take k))) ∧ Hid (Only [] w wr)) (fun _ iv _ => 7 - (intOf iv).toNat)
  case atStart => exact ⟨0, by omega, rfl, HR0, Lib.hid (Only.refl _ _)⟩
  case round =>
    obtain ⟨k, hk, rfl, hR, hO⟩ := hrel
    obtain ⟨A, c, rfl, hnc, hcm⟩ := own_form hR.out
    have e9 := IntWalk.i64_in ((k : Int) + 1) ⟨by omega, by omega⟩
    by_cases h7 : k < 7
    · have hki : (k : Int) < 7 := by omega
      by_cases h2 : k < 2
      · have hlt : k < ns.length := by have := HL.out; omega
        have htk : ns.take (k + 1) = ns.take k ++ [ns[k]] := List.take_succ_eq_append_getElem hlt
        obtain ⟨q, hq⟩ : ∃ q, ns[k] = q := ⟨_, rfl⟩
        rw [hq] at htk
        have HC2 := Lib.hid (show Calls Tryz.prog 82 #[.pointer (some ⟨wb, 0, none⟩), .int .i64 k] wr fun e w' => e = .returned (.pointer (some ⟨q.1, 0, none⟩)) ∧ w' = wr from HS.out _ hO.out k h2 q (by rw [List.getElem?_eq_getElem hlt, hq]))
        have hlk : (ns.take k).length ≤ 2 := by rw [List.length_take]; omega
        have hr4 := hR.out.alloc (.cells [Value.pointer (some ⟨q.1, 0, none⟩)].toArray 113)
        obtain ⟨A5, c5, w5, hrun, hown, hO5, hfr⟩ := run_app (P := Tryz.prog) 111 111 w.heap.size 113 (.pointer none) 1 8 Tryz.underlying111 infoNp rfl (by decide) hr4 (slc_new1 (w := wr) (e := 113) (size := 1) (cs := [Value.pointer (some ⟨q.1, 0, none⟩)]) rfl) (by simp [Value.oneCell']) (by omega) (by unfold maxLen; omega) (by have := hO.out.size; simp; omega)
        have hrl := fun g hg => World.ownsRow.lt hr4 g hg
        have HR1 := Lib.hid (show w5.ownsRow w.heap.size 113 1 (.slice A5 ((ns.take k).length + 1) c5) (ns.take (k + 1)).length (ptrs (ns.take (k + 1))) from by
          rw [htk, List.length_append]
          unfold ptrs
          rw [List.map_append]
          exact hown)
        have HO5 := Lib.hid (show Only [] w w5 from (hO.out.alloc _).step hO5 (fun i hi => .inr (hrl i (by simpa using hi)).1))
        have HR := Lib.hid hrun
        obtain ⟨m, hm⟩ : ∃ m, (ns.take k).length = m := ⟨_, rfl⟩
        rw [hm] at HR HR1 hnc ⊢
        clear hrun hown hO5 hfr hr4 hrl hq htk hR hO hlk hm hlt
        go_wp2_with (first
          | (go_at_call 82; refine HC2.out.mono ?_; rintro e w1 ⟨rfl, rfl⟩)
          | (at_builtin; refine Lib.wpList_append_run _ rfl (.tmp 14) (.tmp 16) 111 111 rfl _ _ rfl rfl _ _ HR.out ?_))
        exact ⟨⟨k + 1, by omega, by simp, HR1, HO5⟩, by simp [intOf]; omega⟩
      · have HC := Lib.hid (HNo.out _ hO.out k (by omega) (by omega))
        have htk : ns.take (k + 1) = ns.take k := by rw [List.take_of_length_le (by have := HL.out; omega), List.take_of_length_le (by have := HL.out; omega)]
        have HR1 := Lib.hid (show wr.ownsRow w.heap.size 113 1 (.slice A (ns.take k).length c) (ns.take (k + 1)).length (ptrs (ns.take (k + 1))) from by rw [htk]; exact hR.out)
        obtain ⟨m, hm⟩ : ∃ m, (ns.take k).length = m := ⟨_, rfl⟩
        rw [hm] at HR1 ⊢
        clear hm htk hR
        have HOk := hO
        go_wp2_with (go_at_call 82; refine HC.out.mono ?_; rintro e w1 ⟨rfl, rfl⟩)
        exact ⟨⟨k + 1, by omega, by simp, HR1, HOk⟩, by simp [intOf]; omega⟩
    · have hk7 : ns.take k = ns := List.take_of_length_le (by have := HL.out; omega)
      have hr := hR.out
      rw [hk7, HL.out] at hr
      rw [hk7, HL.out]
      have hge : ¬ (k : Int) < 7 := by omega
      have HRf := Lib.hid hr
      clear hr hR
      go_wp2_with fail
      go_ret
      exact ⟨_, _, rfl, HRf.out, hO.out⟩
end
end Go.Proofs.YteinoiicnmemhaaGreatDoor
/- Contract: audit.Agree of a world that did nothing yet. -/
set_option linter.unusedVariables false
set_option linter.unusedSimpArgs false
namespace Go.Proofs.YteinoiicnmemhaaGreatDoor
open Go.RowKit Go Go.Sort
section
variable {w w' : World} {b wb : Nat} {v : Value} {ns : List (Nat × Nat)}
set_option maxRecDepth 100000 in
set_option maxHeartbeats 4000000 in
theorem aagree_any (h : ClAt b w wb v ns) (hl : ns.length = 2) : Calls Tryz.prog 16 #[.pointer (some ⟨wb, 0, none⟩)] w fun e w' => e = .returned (.bool true) ∧ Only [] w w' := by
  have HN := Lib.hid (anodes_any h hl)
  have HG := Lib.hid (fun (W : World) (k : Only [] w W) (p q : Nat × Nat) (hp : p ∈ ns) (hq : q ∈ ns) => nagree_any (((h.nod p hp).1).keep0 k) (((h.nod q hq).1).keep0 k))
  have HL := Lib.hid hl
  clear h hl
  go_enter Tryz.func16, Tryz.ntmps16
  go_wp2_with fail
  refine HN.out.mono ?_
  rintro e w1 ⟨A, c, rfl, hown, k1⟩
  obtain ⟨_, _, e2, hcl, hnc, hcm, hel⟩ := (Slc.of_own hown).1
  cases e2
  unfold maxLen at hcm
  obtain ⟨g, off, rfl, hg, hcc⟩ := hel (by omega)
  have Hcell := Lib.hid (fun (j : Nat) (hj : j < 2) => show ∃ p ∈ ns, w1.cell? ⟨g, off + j, none⟩ = some (.pointer (some ⟨p.1, 0, none⟩)) from by
    have hjl : j < ns.length := by have := HL.out; omega
    refine ⟨ns[j], List.getElem_mem hjl, ?_⟩
    rw [hcc j (by omega)]
    simp [ptrs, hjl])
  have K1 := Lib.hid k1
  clear hcc hel hown hcl HN k1
  go_wp2_with fail
  go_loopw [12] (fun iv wr => ∃ k : Nat, k ≤ 2 ∧ iv = .int .i64 k ∧ Hid (wr = w1)) (fun iv _ => 2 - (intOf iv).toNat)
  case atStart => exact ⟨0, by omega, rfl, Lib.hid rfl⟩
  case round =>
    obtain ⟨k, hk, rfl, hwr⟩ := hrel
    have hwr' := hwr.out.symm
    clear hwr
    subst hwr'
    have e9 := IntWalk.i64_in ((k : Int) + 1) ⟨by omega, by omega⟩
    by_cases h2 : k < 2
    · have hki : (k : Int) < 2 := by omega
      obtain ⟨p, hp, hc⟩ := Hcell.out k h2
      go_wp2_with fail
      go_loopw [21] (fun jv wq => ∃ j : Nat, j ≤ k ∧ jv = .int .i64 j ∧ Hid (wq = w1)) (fun jv _ => k - (intOf jv).toNat)
      case atStart => exact ⟨0, by omega, rfl, Lib.hid rfl⟩
      case round =>
        obtain ⟨j, hj, rfl, hwq⟩ := hrel
        have hwq' := hwq.out.symm
        clear hwq
        subst hwq'
        have e8 := IntWalk.i64_in ((j : Int) + 1) ⟨by omega, by omega⟩
        by_cases h3 : j < k
        · have hji : (j : Int) < k := by omega
          obtain ⟨q, hq, hc2⟩ := Hcell.out j (by omega)
          have HC := Lib.hid (HG.out w1 K1.out p q hp hq)
          go_wp2_with (go_at_call 44; refine HC.out.mono ?_; rintro e w3 ⟨rfl, rfl⟩)
          exact ⟨⟨j + 1, by omega, by simp, Lib.hid trivial⟩, by simp [intOf]; omega⟩
        · have hji : ¬ (j : Int) < k := by omega
          go_wp2_with fail
          exact ⟨⟨k + 1, by omega, by simp, Lib.hid trivial⟩, by simp [intOf]; omega⟩
    · have hki : ¬ (k : Int) < 2 := by omega
      go_wp2_with fail
      go_ret
      exact ⟨rfl, K1.out⟩
end
end Go.Proofs.YteinoiicnmemhaaGreatDoor
/- Contract: audit.Sound of a world that did nothing yet, and of none. -/
set_option linter.unusedVariables false
set_option linter.unusedSimpArgs false
namespace Go.Proofs.YteinoiicnmemhaaGreatDoor
open Go.RowKit Go Go.Sort
section
variable {w w' : World} {b wb nb : Nat} {v : Value} {ns : List (Nat × Nat)}
theorem judge0_any {M : List Nat} {sb mb : Nat} {av : Value} {pf : ByteArray → Value} (h : StAt w M sb mb av pf MS.new) : Calls Tryz.prog 11 #[.pointer (some ⟨sb, 0, none⟩), .slice none 0 0] w fun e w' => e = .returned (.bool true) ∧ Only [] w w' := by
  have := judge_any (l := []) h (MS.new_ok) few_new (by omega) (Slc.nil w 9) (by simp) (by simp)
  rw [show (runE MS.new []).sameQ MS.new = true from sameQ_refl MS.new] at this
  exact this
set_option maxRecDepth 100000 in
theorem asound_nil (w : World) : Calls Tryz.prog 17 #[.pointer none] w fun e w' => e = .returned (.int .i64 1) ∧ w' = w := by
  go_enter Tryz.func17, Tryz.ntmps17
  go_wp2
  go_ret
  exact ⟨rfl, rfl⟩
set_option maxRecDepth 100000 in
set_option maxHeartbeats 4000000 in
theorem asound_any (h : ClAt b w wb v ns) (hl : ns.length = 2) : Calls Tryz.prog 17 #[.pointer (some ⟨wb, 0, none⟩)] w fun e w' => e = .returned (.int .i64 0) ∧ Only [] w w' := by
  have HN := Lib.hid (anodes_any h hl)
  have HNod := Lib.hid (fun (W : World) (k : Only [] w W) (p : Nat × Nat) (hp : p ∈ ns) => ((h.nod p hp).1).keep0 k)
  have HAg := Lib.hid (fun (W : World) (k : Only [] w W) => aagree_any (h.keep0 k) hl)
  have HL := Lib.hid hl
  clear h hl
  go_enter Tryz.func17, Tryz.ntmps17
  go_wp2_with fail
  refine HN.out.mono ?_
  rintro e w1 ⟨A, c, rfl, hown, k1⟩
  obtain ⟨_, _, e2, hcl, hnc, hcm, hel⟩ := (Slc.of_own hown).1
  cases e2
  unfold maxLen at hcm
  obtain ⟨g, off, rfl, hg, hcc⟩ := hel (by omega)
  have Hcell := Lib.hid (fun (W : World) (k : Only [] w1 W) (j : Nat) (hj : j < 2) => show ∃ p ∈ ns, W.cell? ⟨g, off + j, none⟩ = some (.pointer (some ⟨p.1, 0, none⟩)) from by
    have hjl : j < ns.length := by have := HL.out; omega
    refine ⟨ns[j], List.getElem_mem hjl, ?_⟩
    rw [k.cell hg (by simp), hcc j (by omega)]
    simp [ptrs, hjl])
  have K1 := Lib.hid k1
  clear hcc hel hown hcl HN k1
  go_wp2_with fail
  go_loopw [10] (fun iv wr => ∃ k : Nat, k ≤ 2 ∧ iv = .int .i64 k ∧ Hid (Only [] w1 wr)) (fun iv _ => 2 - (intOf iv).toNat)
  case atStart => exact ⟨0, by omega, rfl, Lib.hid (Only.refl _ _)⟩
  case round =>
    obtain ⟨k, hk, rfl, hO⟩ := hrel
    have e9 := IntWalk.i64_in ((k : Int) + 1) ⟨by omega, by omega⟩
    by_cases h2 : k < 2
    · have hki : (k : Int) < 2 := by omega
      obtain ⟨p, hp, hc⟩ := Hcell.out wr hO.out k h2
      have HP := Lib.hid (fun (W : World) (kk : Only [] wr W) => HNod.out W (K1.out.trans (hO.out.trans kk)) p hp)
      have HM := Lib.hid (nmodel_any (HP.out wr (Only.refl _ _)))
      go_wp2_with fail
      refine HM.out.mono ?_
      rintro e w2 ⟨sb, mb, av, M, rfl, hst, k2⟩
      have HC := Lib.hid (ncommit_any (HP.out w2 k2))
      have HE := Lib.hid (nentries_any (HP.out w2 k2) 0)
      have HJ := Lib.hid (judge0_any hst)
      clear hst
      go_wp2_with fail
      refine HC.out.mono ?_
      rintro e w3 ⟨rfl, rfl⟩
      go_wp2_with fail
      refine HE.out.mono ?_
      rintro e w4 ⟨rfl, rfl⟩
      go_wp2_with fail
      refine HJ.out.mono ?_
      rintro e w5 ⟨rfl, k5⟩
      go_wp2_with fail
      exact ⟨⟨k + 1, by omega, by simp, Lib.hid ((hO.out.trans k2).trans k5)⟩, by simp [intOf]; omega⟩
    · have hki : ¬ (k : Int) < 2 := by omega
      have HA := Lib.hid (HAg.out wr (K1.out.trans hO.out))
      go_wp2_with fail
      refine HA.out.mono ?_
      rintro e w5 ⟨rfl, k5⟩
      go_wp2_with fail
      go_ret
      exact ⟨rfl, (K1.out.trans hO.out).trans k5⟩
end
end Go.Proofs.YteinoiicnmemhaaGreatDoor
/- Contract: audit.Explain of nothing. -/
set_option linter.unusedVariables false
set_option linter.unusedSimpArgs false
namespace Go.Proofs.YteinoiicnmemhaaGreatDoor
open Go.RowKit Go Go.Sort
set_option maxRecDepth 100000 in
theorem aordered_nil (w : World) : Calls Tryz.prog 42 #[.slice none 0 0] w fun e w' => e = .returned (.bool true) ∧ w' = w := by
  go_enter Tryz.func42, Tryz.ntmps42
  go_wp2_with fail
  go_loopw [9] (fun iv wr => iv = .int .i64 0 ∧ wr = w) (fun _ _ => 0)
  case atStart => exact ⟨rfl, rfl⟩
  case round =>
    obtain ⟨rfl, hwr⟩ := hrel
    have hwr' := hwr.symm
    subst hwr'
    go_wp2
    go_ret
    exact ⟨rfl, rfl⟩
set_option maxRecDepth 100000 in
set_option maxHeartbeats 2000000 in
theorem aexplain_nil (w : World) : Calls Tryz.prog 15 #[.slice none 0 0, .slice none 0 0] w fun e w' => e = .returned (.bool true) ∧ Only [] w w' := by
  have HN := Lib.hid (fun (W : World) => newAt_any W)
  have HOr := Lib.hid (fun (W : World) => aordered_nil W)
  have hmm := @run_makeMap Tryz.prog
  go_enter Tryz.func15, Tryz.ntmps15
  go_wp2_with fail
  go_loopw [6, 27] (fun ov iv wr => ov = .slice none 0 0 ∧ iv = .int .i64 0 ∧ Hid (Only [] w wr)) (fun _ _ _ => 0)
  case atStart => exact ⟨rfl, rfl, Lib.hid ((Only.refl _ _).alloc _)⟩
  case round =>
    obtain ⟨rfl, rfl, hO⟩ := hrel
    go_wp2_with fail
    refine (HN.out _).mono ?_
    rintro e w2 ⟨rfl, -, k2⟩
    have hO2 := Lib.hid (hO.out.trans k2)
    go_wp2_with fail
    go_loopw [53] (fun iv wq => iv = .int .i64 0 ∧ Hid (Only [] w wq)) (fun _ _ => 0)
    case atStart => exact ⟨rfl, hO2⟩
    case round =>
      rename World => wq
      obtain ⟨rfl, hO3⟩ := hrel
      go_wp2_with fail
      refine (HOr.out _).mono ?_
      rintro e w4 ⟨rfl, rfl⟩
      go_wp2_with fail
      go_ret
      exact ⟨rfl, hO3.out⟩
end Go.Proofs.YteinoiicnmemhaaGreatDoor
/- alive of chapter 27. -/
set_option linter.unusedVariables false
set_option linter.unusedSimpArgs false
namespace Go.Proofs.YteinoiicnmemhaaGreatDoor
open Go.RowKit Go Go.Sort
def mkE : EntV := ⟨0, ⟨⟨4, 0, ⟨#[]⟩, 0, [], MetaR.zero⟩, .slice none 0 0⟩⟩
theorem mkE_not : (runE MS.new [mkE]).sameQ MS.new = false := by kernel_rfl
theorem mkE_ok : CmdOk mkE.x.c := ⟨by decide, fun e he => by simp [mkE] at he⟩
section
variable {w : World} {M : List Nat} {sb mb : Nat} {av : Value} {pf : ByteArray → Value}
theorem judge1_any (h : StAt w M sb mb av pf MS.new) : Calls Tryz.prog 11 #[.pointer (some ⟨sb, 0, none⟩), .slice (some ⟨w.heap.size, 0, none⟩) 1 1] (w.alloc (.cells #[.int .i64 0, .int .i64 4, .int .i64 0, .string ⟨#[]⟩, .int .i64 0, .slice none 0 0, .int .i64 0, .int .i64 0, .int .i64 0] 43)) fun e w' => e = .returned (.bool false) ∧ Only [] w w' := by
  have k := (Only.refl [] w).alloc (.cells mkE.cells.toArray 43)
  have := judge_any (l := [mkE]) (h.only0 k) MS.new_ok few_new (by omega) (by simpa using slc_new1 (w := w) (e := 43) (size := 9) (cs := mkE.cells) rfl) (by simp) (fun e he => by
    simp at he
    subst he
    exact ⟨mkE_ok, Slc.nil _ 4, fun g hg => by cases hg⟩)
  rw [mkE_not] at this
  have this : Calls Tryz.prog 11 #[.pointer (some ⟨sb, 0, none⟩), .slice (some ⟨w.heap.size, 0, none⟩) 1 1] (w.alloc (.cells #[.int .i64 0, .int .i64 4, .int .i64 0, .string ⟨#[]⟩, .int .i64 0, .slice none 0 0, .int .i64 0, .int .i64 0, .int .i64 0] 43)) _ := this
  exact this.mono fun e w' ⟨q1, q2⟩ => ⟨q1, k.trans q2⟩
set_option maxRecDepth 100000 in
set_option maxHeartbeats 4000000 in
theorem alive27_any (w : World) (hT : J.Tab w) : Calls Tryz.prog 7 #[] w fun e w' => e = .returned (.bool true) ∧ Only [] w w' := by
  have HC := Lib.hid (cnew2_any hT)
  have HN := Lib.hid (fun (W : World) => newAt_any W)
  have HX := Lib.hid (fun (W : World) => aexplain_nil W)
  have HSn := Lib.hid (fun (W : World) => asound_nil W)
  clear hT
  go_enter Tryz.func7, Tryz.ntmps7
  go_wp2_with fail
  refine HC.out.mono ?_
  rintro e w1 ⟨wb, v, ns, rfl, hC, hl, k1⟩
  have HCl := Lib.hid hC
  have HL := Lib.hid hl
  clear hC hl HC
  go_wp2_with fail
  refine (HN.out _).mono ?_
  rintro e w2 ⟨rfl, hs, k2⟩
  have HS := Lib.hid hs
  have HA := Lib.hid (aagree_any (HCl.out.keep0 k2) HL.out)
  obtain ⟨sb, hsb⟩ : ∃ sb, w1.heap.size + 1 = sb := ⟨_, rfl⟩
  obtain ⟨smb, hsmb⟩ : ∃ smb, w1.heap.size = smb := ⟨_, rfl⟩
  have HS2 := Lib.hid (show NewAt w2 sb smb from by rw [← hsb, ← hsmb]; exact HS.out)
  rw [hsb]
  clear hs HN HS hsb hsmb
  go_wp2_with fail
  refine HA.out.mono ?_
  rintro e w3 ⟨rfl, k3⟩
  have HSo := Lib.hid (asound_any ((HCl.out.keep0 k2).keep0 k3) HL.out)
  go_wp2_with fail
  refine HSo.out.mono ?_
  rintro e w4 ⟨rfl, k4⟩
  go_wp2_with fail
  refine (HX.out _).mono ?_
  rintro e w5 ⟨rfl, k5⟩
  have k25 := (k3.trans k4).trans k5
  have hst := HS2.out.only k25 (by simp) (by simp)
  have HJ := Lib.hid (judge0_any (hst.st (fun _ => .slice none 0 0)))
  go_wp2_with fail
  refine HJ.out.mono ?_
  rintro e w6 ⟨rfl, k6⟩
  go_wp2_with fail
  refine (HSn.out _).mono ?_
  rintro e w7 ⟨rfl, rfl⟩
  have hst7 := hst.only k6 (by simp) (by simp)
  have HJ1 := Lib.hid (judge1_any (hst7.st (fun _ => .slice none 0 0)))
  have hO := ((k1.trans k2).trans k25).trans k6
  clear hst hst7
  go_wp2_with fail
  refine HJ1.out.mono ?_
  rintro e w8 ⟨rfl, k8⟩
  go_wp2_with fail
  go_ret
  exact ⟨rfl, hO.trans k8⟩
end
end Go.Proofs.YteinoiicnmemhaaGreatDoor
/- The program's state and two of the document's, beside each other, with boxes and a row of one's own. -/
set_option linter.unusedVariables false
set_option linter.unusedSimpArgs false
namespace Go.Proofs.YteinoiicnmemhaaGreatDoor
open Go.RowKit Go Go.Sort
/-- X: boxes of the caller's own; E: blocks that only are read. -/
structure Twin (a w : World) (X H K E : List Nat) (sb mb ra rb : Nat) (s : MS) (r t : RS) (N : Nat) : Prop where
  st : HasS a w (X ++ (H ++ K)) E sb mb s N
  one : HasD a w H ra r
  two : HasD a w K rb t
  dis : ∀ b ∈ K, b ∉ H
  dx : ∀ b ∈ X, b ∉ H ∧ b ∉ K
section
variable {a w w' : World} {X X' H K E E' : List Nat} {sb mb ra rb N N' : Nat} {s s' : MS} {r r' t t' : RS}
theorem Twin.keep0 (h : Twin a w X H K E sb mb ra rb s r t N) (k : Only [] w w') : Twin a w' X H K E sb mb ra rb s r t N :=
  ⟨h.st.keep k, h.one.keep0 k, h.two.keep0 k, h.dis, h.dx⟩
theorem Twin.less (h : Twin a w X H K E sb mb ra rb s r t N) (hx : ∀ g ∈ X', g ∈ X) (he : ∀ g ∈ E', g ∈ E) : Twin a w X' H K E' sb mb ra rb s r t N :=
  ⟨h.st.less (fun g hg => (List.mem_append.1 hg).elim (fun q => List.mem_append_left _ (hx g q)) (fun q => List.mem_append_right _ q)) he, h.one, h.two, h.dis, fun b q => h.dx b (hx b q)⟩
end
theorem CmdsAt.up {a b w : World} {v : Value} {l : List CmdV} (h : CmdsAt a w v l) (hl : a.heap.size ≤ b.heap.size) : CmdsAt b w v l :=
  ⟨h.slc, fun g hg => (h.own g hg).imp (fun q => Nat.lt_of_lt_of_le q hl) id, fun x hx => ⟨(h.cmd x hx).1, (h.cmd x hx).2.1, fun g hg => ((h.cmd x hx).2.2 g hg).imp (fun q => Nat.lt_of_lt_of_le q hl) id⟩⟩
end Go.Proofs.YteinoiicnmemhaaGreatDoor
/- AuditJudges: the walk. -/
set_option linter.unusedVariables false
set_option linter.unusedSimpArgs false
namespace Go.Proofs.YteinoiicnmemhaaGreatDoor
open Go.RowKit Go Go.Sort
theorem infoEn : (Tryz.prog.info? 43).map (fun i => (i.zero, i.size, i.bytes)) = some (some (.agg #[.int .i64 0, .int .i64 0, .int .i64 0, .string ⟨#[]⟩, .int .i64 0, .slice none 0 0, .int .i64 0, .int .i64 0, .int .i64 0]), 9, 96) := by kernel_rfl
section
variable {w : World} {v1 v2 : Value} {l m : List CmdV}
end
end Go.Proofs.YteinoiicnmemhaaGreatDoor
/- What is read behind each command: pages of the program's state and of the document's, one event, all that is seen; a row of one's own is kept by the book. -/
set_option linter.unusedVariables false
set_option linter.unusedSimpArgs false
namespace Go.Proofs.YteinoiicnmemhaaGreatDoor
open Go.RowKit Go Go.Sort
/-! ## plain -/
theorem pageBy_false (key : StoredR → Int) (l : List StoredR) (f n : Int) : pageBy key l f n false = forwardBy key l f n := by unfold pageBy forwardBy; simp
theorem readP_false (s : MS) (n : ByteArray) (f k : Int) : s.readP n f k false = s.readF n f k := by unfold MS.readP MS.readF MS.readOk; rw [pageBy_false]
theorem bwdGo_few (key : StoredR → Int) (f n : Int) : ∀ (l acc : List StoredR) (nx : Int), (bwdGo key f n l acc nx).events.length ≤ acc.length + l.length
  | [], acc, nx => by simp [bwdGo]
  | s :: l, acc, nx => by
    unfold bwdGo
    split
    · have := bwdGo_few key f n l acc nx
      simp
      omega
    · split
      · simp
      · have := bwdGo_few key f n l (acc ++ [s]) (max (key s) 0 - 1)
        simp at this ⊢
        omega
theorem pageBy_few (key : StoredR → Int) (l : List StoredR) (f n : Int) (back : Bool) : (pageBy key l f n back).1.events.length ≤ l.length := by
  cases back
  · rw [pageBy_false]; exact forwardBy_few key l f n
  · unfold pageBy
    split
    · simp [PageR.zero]
    · have := bwdGo_few key f n l.reverse [] f
      simpa using this
theorem seenL_less {s : MS} (hi : s.Inv) (h2 : s.Inv2) (n : ByteArray) : (s.seenL n).length ≤ s.all.length := by
  rw [seenL_filter hi h2]
  exact Nat.le_trans (List.length_filter_le _ _) (List.length_filter_le _ _)
theorem readP_few {s : MS} (hi : s.Inv) (h2 : s.Inv2) (n : ByteArray) (f k : Int) (back : Bool) : (s.readP n f k back).1.events.length ≤ s.all.length := by
  unfold MS.readP
  split
  · simp [PageR.zero]
  · split
    · simp [PageR.zero]
    · split
      · simp [PageR.zero]
      · exact Nat.le_trans (pageBy_few _ _ _ _ _) (seenL_less hi h2 n)
/-! ## the calls -/
section
variable {a w w' : World} {X X' H Hk E : List Nat} {sb mb rb kb N : Nat} {s : MS} {r : RS}
theorem sread_any (h : HasS a w X E sb mb s N) (hN : N ≤ 100000) (n : ByteArray) (hn : n.size ≤ maxLen) (f k : Int) (back : Bool) : Calls Tryz.prog 80 #[.pointer (some ⟨sb, 0, none⟩), .string n, .int .i64 f, .int .i64 k, .bool back] w (PageRet w (s.readP n f k back)) := by
  cases back
  · rw [readP_false]; exact has_read h hN n hn f k
  · obtain ⟨M, av, pf, h1, h2⟩ := h.st
    exact readB_any h1 h.ok hN n hn f k (seenL_vers h.inv h.ok hN n)
theorem sall_any (h : HasS a w X E sb mb s N) (hN : N ≤ 100000) (f k : Int) (back : Bool) : Calls Tryz.prog 79 #[.pointer (some ⟨sb, 0, none⟩), .int .i64 f, .int .i64 k, .bool back] w (PageRet w (pageBy StoredR.position s.seenAll f k back)) := by
  cases back
  · rw [pageBy_false]; exact has_all h hN f k
  · exact has_allB h hN f k
/-- A page as a call leaves it, in literals. -/
def PageLit (w : World) (ps : List StoredR) (pn : Int) (pe : Bool) (pr : Int) (e : Ending) (w' : World) : Prop :=
  ∃ A c, e = .returned (.tuple #[.agg #[.slice A ps.length c, .int .i64 pn, .bool pe], .int .i64 pr]) ∧ w'.ownsRow w.heap.size 92 8 (.slice A ps.length c) ps.length (ps.flatMap StoredR.cells) ∧ Only [] w w'
theorem page_lit {r : PageR × Int} {w : World} {n : Nat} {args : Array Value} (h : Calls Tryz.prog n args w (PageRet w r)) : Calls Tryz.prog n args w (PageLit w r.1.events r.1.next r.1.isEnd r.2) :=
  h.mono fun e w' ⟨pv, h1, h2, h3⟩ => by
    obtain ⟨A, c, rfl, _, _⟩ := own_form h2
    exact ⟨A, c, h1, h2, h3⟩
end
end Go.Proofs.YteinoiicnmemhaaGreatDoor
/- Contract: audit.right. -/
set_option linter.unusedVariables false
set_option linter.unusedSimpArgs false
namespace Go.Proofs.YteinoiicnmemhaaGreatDoor
open Go.RowKit Go Go.Sort
def DoneV.cells (d : DoneV) : List Value := [.int .i64 d.nd, .int .i64 d.id, .int .i64 d.req.x.c.kind, .int .i64 d.req.x.c.time, .string d.req.x.c.stream, .int .i64 d.req.x.c.expected, d.req.x.ev, .int .i64 d.req.x.c.mt.maxCount, .int .i64 d.req.x.c.mt.maxAge, .int .i64 d.req.x.c.mt.before,
  .bool d.req.read, .bool d.req.all, .int .i64 d.req.fr, .int .i64 d.req.n, .bool d.req.back, .int .i64 d.rid, .int .i64 d.place, .int .i64 d.ans.err, .int .i64 d.ans.version, .int .i64 d.ans.position, .bool d.ans.again, d.pv, .int .i64 d.pg.next, .bool d.pg.isEnd, .int .i64 d.asked, .int .i64 d.answered]
structure DoneOk (w : World) (d : DoneV) : Prop where
  ev : Slc w 4 d.req.x.ev d.req.x.c.events.length (d.req.x.c.events.flatMap EventR.cells)
  few : d.req.x.c.events.length ≤ 1000000
  stream : d.req.x.c.stream.size ≤ maxLen
  pg : Slc w 8 d.pv d.pg.events.length (d.pg.events.flatMap StoredR.cells)
  pfew : d.pg.events.length ≤ 1000000
section
variable {a w w' : World} {R E : List Nat} {sb mb N : Nat} {s : MS} {d : DoneV} {c : Cmd} {an : Ans} {v : Value}
theorem DoneOk.keep0 (h : DoneOk w d) (k : Only [] w w') : DoneOk w' d := ⟨h.ev.only0 k, h.few, h.stream, h.pg.only0 k, h.pfew⟩
theorem nb1 (w : World) (o0 o2 o3 : Obj) (c : Array Value) (t : TypeId) : Blk ((((w.alloc o0).alloc (.cells c t)).alloc o2).alloc o3) (w.heap.size + 1) t c := by
  have := Blk.new (w.alloc o0) t c
  rw [World.size_alloc] at this
  exact (((Only.refl [] _).alloc o2).alloc o3).blk this (by simp)
theorem nb2 (w : World) (o0 o1 o3 : Obj) (c : Array Value) (t : TypeId) : Blk ((((w.alloc o0).alloc o1).alloc (.cells c t)).alloc o3) (w.heap.size + 1 + 1) t c := by
  have := Blk.new ((w.alloc o0).alloc o1) t c
  rw [World.size_alloc, World.size_alloc] at this
  exact ((Only.refl [] _).alloc o3).blk this (by simp)
theorem nb0 (w : World) (o1 o2 o3 : Obj) (c : Array Value) (t : TypeId) : Blk ((((w.alloc (.cells c t)).alloc o1).alloc o2).alloc o3) w.heap.size t c :=
  ((((Only.refl [] _).alloc o1).alloc o2).alloc o3).blk (Blk.new w t c) (by simp)
theorem nb4 (w : World) (o0 o1 o2 o3 : Obj) (c : Array Value) (t : TypeId) : Blk (((((w.alloc o0).alloc o1).alloc o2).alloc o3).alloc (.cells c t)) (w.heap.size + 1 + 1 + 1 + 1) t c := by
  have := Blk.new ((((w.alloc o0).alloc o1).alloc o2).alloc o3) t c
  rw [World.size_alloc, World.size_alloc, World.size_alloc, World.size_alloc] at this
  exact this
theorem ans_ext {a b c : Int} {d : Bool} {a' b' c' : Int} {d' : Bool} : ((⟨a, b, c, d⟩ : Ans) = ⟨a', b', c', d'⟩) ↔ (a = a' ∧ b = b' ∧ c = c' ∧ d = d') := by simp
set_option maxRecDepth 100000 in
set_option maxHeartbeats 4000000 in
theorem right_no (hr : d.req.read = false) (hd : DoneOk w d) (he : Slc w 4 v c.events.length (c.events.flatMap EventR.cells)) (hf : c.events.length ≤ 1000000) :
    Calls Tryz.prog 41 #[.pointer (some ⟨sb, 0, none⟩), .agg #[.int .i64 c.kind, .int .i64 c.time, .string c.stream, .int .i64 c.expected, v, .int .i64 c.mt.maxCount, .int .i64 c.mt.maxAge, .int .i64 c.mt.before], .agg #[.int .i64 an.err, .int .i64 an.version, .int .i64 an.position, .bool an.again],
      .agg #[.int .i64 d.nd, .int .i64 d.id, .int .i64 d.req.x.c.kind, .int .i64 d.req.x.c.time, .string d.req.x.c.stream, .int .i64 d.req.x.c.expected, d.req.x.ev, .int .i64 d.req.x.c.mt.maxCount, .int .i64 d.req.x.c.mt.maxAge, .int .i64 d.req.x.c.mt.before,
  .bool d.req.read, .bool d.req.all, .int .i64 d.req.fr, .int .i64 d.req.n, .bool d.req.back, .int .i64 d.rid, .int .i64 d.place, .int .i64 d.ans.err, .int .i64 d.ans.version, .int .i64 d.ans.position, .bool d.ans.again, d.pv, .int .i64 d.pg.next, .bool d.pg.isEnd, .int .i64 d.asked, .int .i64 d.answered]] w fun e w' => e = .returned (.bool (rightF s c an d)) ∧ Only [] w w' := by
  obtain ⟨nd, id, ⟨⟨⟨k2, t2, s2, x2, l2, ⟨a2, b2, d2⟩⟩, v2⟩, read, all, fr, n, back⟩, rid, place, ⟨er, ver, pos, ag⟩, ⟨pl, pn, pe⟩, pv, asked, answered⟩ := d
  obtain ⟨k1, t1, s1, x1, l1, ⟨a1, b1, d1⟩⟩ := c
  obtain ⟨er1, ver1, pos1, ag1⟩ := an
  obtain ⟨h1, h2, h3, h4, h5⟩ := hd
  simp only at h1 h2 h3 h4 h5 he hf hr ⊢
  subst hr
  have HA := Lib.hid (fun (W : World) (k : Only [] w W) => asame_any k1 t1 s1 x1 l1 a1 b1 d1 k2 t2 s2 x2 l2 a2 b2 d2 (he.only0 k) (h1.only0 k) hf h2)
  obtain ⟨A1, c1, rfl⟩ : ∃ A1 c1, v = .slice A1 l1.length c1 := by obtain ⟨A1, c1, q, _⟩ := he.openE EventR.cells (fun _ => rfl); exact ⟨A1, c1, q⟩
  obtain ⟨A2, c2, rfl⟩ : ∃ A2 c2, v2 = .slice A2 l2.length c2 := by obtain ⟨A2, c2, q, _⟩ := h1.openE EventR.cells (fun _ => rfl); exact ⟨A2, c2, q⟩
  obtain ⟨A3, c3, rfl⟩ : ∃ A3 c3, pv = .slice A3 pl.length c3 := by obtain ⟨A3, c3, q, _⟩ := h4.openE StoredR.cells (fun _ => rfl); exact ⟨A3, c3, q⟩
  obtain ⟨b0, hb0⟩ : ∃ b, sameC0 ⟨k1, t1, s1, x1, l1, ⟨a1, b1, d1⟩⟩ ⟨k2, t2, s2, x2, l2, ⟨a2, b2, d2⟩⟩ = b := ⟨_, rfl⟩
  rw [hb0] at HA
  have H0 := Lib.hid hb0
  clear h1 h2 h3 h4 h5 he hf hb0
  go_enter Tryz.func41, Tryz.ntmps41
  go_wp2_with fail
  refine (HA.out _ (((((Only.refl [] w).alloc _).alloc _).alloc _).alloc _)).mono ?_
  rintro e w1 ⟨rfl, ho1⟩
  have g6 := fun i => (ho1.blk (nb1 _ _ _ _ _ _) (by simp)).cell i
  have g7 := fun i => (ho1.blk (nb2 _ _ _ _ _ _) (by simp)).cell i
  clear HA
  cases b0
  · go_wp2_with fail
    go_ret
    refine ⟨ret_b (by simp [rightF, H0.out, ans_ext, Bool.false_and]), ?_⟩
    exact ((((Only.refl [] w).alloc _).alloc _).alloc _).alloc _ |>.trans ho1
  · by_cases q1 : er1 = er
    · by_cases q2 : ver1 = ver
      · by_cases q3 : pos1 = pos
        · cases ag1 <;> cases ag
          · go_wp2_with fail
            go_ret
            refine ⟨ret_b (by simp [rightF, H0.out, ans_ext, q1, q2, q3]), ?_⟩
            exact ((((Only.refl [] w).alloc _).alloc _).alloc _).alloc _ |>.trans ho1
          · go_wp2_with fail
            go_ret
            refine ⟨ret_b (by simp [rightF, H0.out, ans_ext, q1, q2, q3]), ?_⟩
            exact ((((Only.refl [] w).alloc _).alloc _).alloc _).alloc _ |>.trans ho1
          · go_wp2_with fail
            go_ret
            refine ⟨ret_b (by simp [rightF, H0.out, ans_ext, q1, q2, q3]), ?_⟩
            exact ((((Only.refl [] w).alloc _).alloc _).alloc _).alloc _ |>.trans ho1
          · go_wp2_with fail
            go_ret
            refine ⟨ret_b (by simp [rightF, H0.out, ans_ext, q1, q2, q3]), ?_⟩
            exact ((((Only.refl [] w).alloc _).alloc _).alloc _).alloc _ |>.trans ho1
        · go_wp2_with fail
          go_ret
          refine ⟨ret_b (by simp [rightF, H0.out, ans_ext, q1, q2, q3]), ?_⟩
          exact ((((Only.refl [] w).alloc _).alloc _).alloc _).alloc _ |>.trans ho1
      · go_wp2_with fail
        go_ret
        refine ⟨ret_b (by simp [rightF, H0.out, ans_ext, q1, q2]), ?_⟩
        exact ((((Only.refl [] w).alloc _).alloc _).alloc _).alloc _ |>.trans ho1
    · go_wp2_with fail
      go_ret
      refine ⟨ret_b (by simp [rightF, H0.out, ans_ext, q1]), ?_⟩
      exact ((((Only.refl [] w).alloc _).alloc _).alloc _).alloc _ |>.trans ho1
theorem readQ_few {q : ReqV} (hi : s.Inv) (h2 : s.Inv2) : (readQ s q).1.events.length ≤ s.all.length := by
  unfold readQ
  split
  · refine Nat.le_trans (pageBy_few _ _ _ _ _) ?_
    unfold MS.seenAll
    exact List.length_filter_le _ _
  · exact readP_few hi h2 _ _ _ _
set_option maxRecDepth 100000 in
set_option maxHeartbeats 4000000 in
theorem right_yes (hr : d.req.read = true) (h : HasS a w R E sb mb s N) (hN : N ≤ 100000) (hi2 : s.Inv2) (hd : DoneOk w d) (he : Slc w 4 v c.events.length (c.events.flatMap EventR.cells)) (hf : c.events.length ≤ 1000000) :
    Calls Tryz.prog 41 #[.pointer (some ⟨sb, 0, none⟩), .agg #[.int .i64 c.kind, .int .i64 c.time, .string c.stream, .int .i64 c.expected, v, .int .i64 c.mt.maxCount, .int .i64 c.mt.maxAge, .int .i64 c.mt.before], .agg #[.int .i64 an.err, .int .i64 an.version, .int .i64 an.position, .bool an.again],
      .agg #[.int .i64 d.nd, .int .i64 d.id, .int .i64 d.req.x.c.kind, .int .i64 d.req.x.c.time, .string d.req.x.c.stream, .int .i64 d.req.x.c.expected, d.req.x.ev, .int .i64 d.req.x.c.mt.maxCount, .int .i64 d.req.x.c.mt.maxAge, .int .i64 d.req.x.c.mt.before,
  .bool d.req.read, .bool d.req.all, .int .i64 d.req.fr, .int .i64 d.req.n, .bool d.req.back, .int .i64 d.rid, .int .i64 d.place, .int .i64 d.ans.err, .int .i64 d.ans.version, .int .i64 d.ans.position, .bool d.ans.again, d.pv, .int .i64 d.pg.next, .bool d.pg.isEnd, .int .i64 d.asked, .int .i64 d.answered]] w fun e w' => e = .returned (.bool (rightF s c an d)) ∧ Only [] w w' := by
  have hpb := readQ_few (q := d.req) h.inv hi2
  have hal := h.ok.all
  obtain ⟨nd, id, ⟨⟨⟨k2, t2, s2, x2, l2, ⟨a2, b2, d2⟩⟩, v2⟩, read, all, fr, n, back⟩, rid, place, ⟨er, ver, pos, ag⟩, ⟨pl, pn, pe⟩, pv, asked, answered⟩ := d
  obtain ⟨k1, t1, s1, x1, l1, ⟨a1, b1, d1⟩⟩ := c
  obtain ⟨er1, ver1, pos1, ag1⟩ := an
  obtain ⟨h1, h2, h3, h4, h5⟩ := hd
  simp only at h1 h2 h3 h4 h5 he hf hr ⊢
  subst hr
  obtain ⟨A1, c1, rfl⟩ : ∃ A1 c1, v = .slice A1 l1.length c1 := by obtain ⟨A1, c1, q, _⟩ := he.openE EventR.cells (fun _ => rfl); exact ⟨A1, c1, q⟩
  obtain ⟨A2, c2, rfl⟩ : ∃ A2 c2, v2 = .slice A2 l2.length c2 := by obtain ⟨A2, c2, q, _⟩ := h1.openE EventR.cells (fun _ => rfl); exact ⟨A2, c2, q⟩
  obtain ⟨A3, c3, rfl⟩ : ∃ A3 c3, pv = .slice A3 pl.length c3 := by obtain ⟨A3, c3, q, _⟩ := h4.openE StoredR.cells (fun _ => rfl); exact ⟨A3, c3, q⟩
  obtain ⟨Q, hQ⟩ : ∃ Q : ReqV, Q = ⟨⟨⟨k2, t2, s2, x2, l2, ⟨a2, b2, d2⟩⟩, .slice A2 l2.length c2⟩, true, all, fr, n, back⟩ := ⟨_, rfl⟩
  have HL1 := Lib.hid (fun (W : World) (k : Only [] w W) => page_lit (sall_any (h.keep k) hN fr n back))
  have HL2 := Lib.hid (fun (W : World) (k : Only [] w W) => page_lit (sread_any (h.keep k) hN s2 h3 fr n back))
  have hq1 : all = true → readQ s Q = pageBy StoredR.position s.seenAll fr n back := fun q => by rw [hQ, q]; rfl
  have hq2 : all = false → readQ s Q = s.readP s2 fr n back := fun q => by rw [hQ, q]; rfl
  rw [← hQ] at hpb
  obtain ⟨⟨⟨ps, qn, qe⟩, pr⟩, hrq⟩ : ∃ r, readQ s Q = r := ⟨_, rfl⟩
  rw [hrq] at hpb hq1 hq2
  rw [hQ] at hrq
  have H0 := Lib.hid hrq
  have hlp : ps.length ≤ 1000000 := by simp only at hpb; omega
  have HP := Lib.hid (fun (w1 W : World) (A c : _) (S : List Nat) (kS : Only S w1 W) (kW : Only [] w W) (ho : w1.ownsRow (w.heap.size + 1 + 1 + 1 + 1 + 1) 92 8 (.slice A ps.length c) ps.length (ps.flatMap StoredR.cells)) (hS : ∀ g ∈ S, g < w.heap.size + 1 + 1 + 1 + 1 + 1) =>
    vsamePage_any ps pl qn pn qe pe (v1 := .slice A ps.length c) (Slc.of_own (own_only ho kS (fun g hg q => by have := (World.ownsRow.lt ho g hg).1; have := hS g q; omega))).1 (h4.only0 kW) hlp h5)
  clear h1 h2 h3 h4 h5 he hf hpb hrq hQ h hi2 hal hlp
  cases all
  · have hqq := hq2 rfl
    rw [← hqq] at HL2
    simp only at HL2
    clear hq1 hq2 hqq HL1
    go_enter Tryz.func41, Tryz.ntmps41
    go_wp2_with fail
    refine (HL2.out _ (((((((Only.refl [] w).alloc _).alloc _).alloc _).alloc _).alloc _))).mono ?_
    rintro e w1 ⟨Ap, cp, rfl, hown, ho1⟩
    simp only [World.size_alloc] at hown
    have g5b := ho1.blk (((Only.refl [] _).alloc _).blk (nb0 _ _ _ _ _ _) (by simp)) (by simp)
    have g6b := ho1.blk (((Only.refl [] _).alloc _).blk (nb1 _ _ _ _ _ _) (by simp)) (by simp)
    have g7b := ho1.blk (((Only.refl [] _).alloc _).blk (nb2 _ _ _ _ _ _) (by simp)) (by simp)
    have g8b := ho1.blk (nb4 _ _ _ _ _ _ _) (by simp)
    have g5 := fun i => g5b.cell i
    have g6 := fun i => g6b.cell i
    have f6 := fun i => g6b.free i
    have g7 := fun i => g7b.cell i
    have g8 := fun i => g8b.cell i
    have f8 := fun i => g8b.free i
    have HW1 := Lib.hid ((((((((Only.refl [] w).alloc _).alloc _).alloc _).alloc _).alloc _)).trans ho1)
    have HOw := Lib.hid hown
    clear HL2 g5b g6b g7b g8b hown ho1
    by_cases q0 : k1 = 4
    · by_cases q1 : pr = er
      · by_cases q2 : ver1 = ver
        · by_cases q3 : pos1 = pos
          · cases ag1 <;> cases ag
            · go_wp2_with fail
              refine (HP.out w1 _ Ap cp [w.heap.size + 1 + 1 + 1 + 1, w.heap.size + 1] ?hs1 ?hs2 HOw.out (by intro g hg; simp at hg; omega)).mono ?_
              case hs1 =>
                iterate 4 (refine Only.setCell ?_ (.inl (by simp)) _)
                exact Only.refl _ _
              case hs2 =>
                iterate 4 (refine Only.setCell ?_ (.inr (by first | (simp; done) | (simp; omega) | omega)) _)
                exact HW1.out
              rintro e w2 ⟨rfl, ho2⟩
              go_wp2_with fail
              go_ret
              refine ⟨ret_b (by simp [rightF, H0.out, ans_ext, q0, q1, q2, q3]), ?_⟩
              refine Only.trans ?_ ho2
              iterate 4 (refine Only.setCell ?_ (.inr (by first | (simp; done) | (simp; omega) | omega)) _)
              exact HW1.out
            · go_wp2_with fail
              go_ret
              refine ⟨ret_b (by simp [rightF, H0.out, ans_ext, q0, q1, q2, q3]), ?_⟩
              repeat (refine Only.setCell ?_ (.inr (by first | (simp; done) | (simp; omega) | omega)) _)
              exact HW1.out
            · go_wp2_with fail
              go_ret
              refine ⟨ret_b (by simp [rightF, H0.out, ans_ext, q0, q1, q2, q3]), ?_⟩
              repeat (refine Only.setCell ?_ (.inr (by first | (simp; done) | (simp; omega) | omega)) _)
              exact HW1.out
            · go_wp2_with fail
              refine (HP.out w1 _ Ap cp [w.heap.size + 1 + 1 + 1 + 1, w.heap.size + 1] ?hs1 ?hs2 HOw.out (by intro g hg; simp at hg; omega)).mono ?_
              case hs1 =>
                iterate 4 (refine Only.setCell ?_ (.inl (by simp)) _)
                exact Only.refl _ _
              case hs2 =>
                iterate 4 (refine Only.setCell ?_ (.inr (by first | (simp; done) | (simp; omega) | omega)) _)
                exact HW1.out
              rintro e w2 ⟨rfl, ho2⟩
              go_wp2_with fail
              go_ret
              refine ⟨ret_b (by simp [rightF, H0.out, ans_ext, q0, q1, q2, q3]), ?_⟩
              refine Only.trans ?_ ho2
              iterate 4 (refine Only.setCell ?_ (.inr (by first | (simp; done) | (simp; omega) | omega)) _)
              exact HW1.out
          · go_wp2_with fail
            go_ret
            refine ⟨ret_b (by simp [rightF, H0.out, ans_ext, q0, q1, q2, q3]), ?_⟩
            repeat (refine Only.setCell ?_ (.inr (by first | (simp; done) | (simp; omega) | omega)) _)
            exact HW1.out
        · go_wp2_with fail
          go_ret
          refine ⟨ret_b (by simp [rightF, H0.out, ans_ext, q0, q1, q2]), ?_⟩
          repeat (refine Only.setCell ?_ (.inr (by first | (simp; done) | (simp; omega) | omega)) _)
          exact HW1.out
      · go_wp2_with fail
        go_ret
        refine ⟨ret_b (by simp [rightF, H0.out, ans_ext, q0, q1]), ?_⟩
        repeat (refine Only.setCell ?_ (.inr (by first | (simp; done) | (simp; omega) | omega)) _)
        exact HW1.out
    · go_wp2_with fail
      go_ret
      refine ⟨ret_b (by simp [rightF, H0.out, ans_ext, q0]), ?_⟩
      repeat (refine Only.setCell ?_ (.inr (by first | (simp; done) | (simp; omega) | omega)) _)
      exact HW1.out
  · have hqq := hq1 rfl
    rw [← hqq] at HL1
    simp only at HL1
    clear hq1 hq2 hqq HL2
    go_enter Tryz.func41, Tryz.ntmps41
    go_wp2_with fail
    refine (HL1.out _ (((((((Only.refl [] w).alloc _).alloc _).alloc _).alloc _).alloc _))).mono ?_
    rintro e w1 ⟨Ap, cp, rfl, hown, ho1⟩
    simp only [World.size_alloc] at hown
    have g5b := ho1.blk (((Only.refl [] _).alloc _).blk (nb0 _ _ _ _ _ _) (by simp)) (by simp)
    have g6b := ho1.blk (((Only.refl [] _).alloc _).blk (nb1 _ _ _ _ _ _) (by simp)) (by simp)
    have g7b := ho1.blk (((Only.refl [] _).alloc _).blk (nb2 _ _ _ _ _ _) (by simp)) (by simp)
    have g8b := ho1.blk (nb4 _ _ _ _ _ _ _) (by simp)
    have g5 := fun i => g5b.cell i
    have g6 := fun i => g6b.cell i
    have f6 := fun i => g6b.free i
    have g7 := fun i => g7b.cell i
    have g8 := fun i => g8b.cell i
    have f8 := fun i => g8b.free i
    have HW1 := Lib.hid ((((((((Only.refl [] w).alloc _).alloc _).alloc _).alloc _).alloc _)).trans ho1)
    have HOw := Lib.hid hown
    clear HL1 g5b g6b g7b g8b hown ho1
    by_cases q0 : k1 = 4
    · by_cases q1 : pr = er
      · by_cases q2 : ver1 = ver
        · by_cases q3 : pos1 = pos
          · cases ag1 <;> cases ag
            · go_wp2_with fail
              refine (HP.out w1 _ Ap cp [w.heap.size + 1 + 1 + 1 + 1, w.heap.size + 1] ?hs1 ?hs2 HOw.out (by intro g hg; simp at hg; omega)).mono ?_
              case hs1 =>
                iterate 4 (refine Only.setCell ?_ (.inl (by simp)) _)
                exact Only.refl _ _
              case hs2 =>
                iterate 4 (refine Only.setCell ?_ (.inr (by first | (simp; done) | (simp; omega) | omega)) _)
                exact HW1.out
              rintro e w2 ⟨rfl, ho2⟩
              go_wp2_with fail
              go_ret
              refine ⟨ret_b (by simp [rightF, H0.out, ans_ext, q0, q1, q2, q3]), ?_⟩
              refine Only.trans ?_ ho2
              iterate 4 (refine Only.setCell ?_ (.inr (by first | (simp; done) | (simp; omega) | omega)) _)
              exact HW1.out
            · go_wp2_with fail
              go_ret
              refine ⟨ret_b (by simp [rightF, H0.out, ans_ext, q0, q1, q2, q3]), ?_⟩
              repeat (refine Only.setCell ?_ (.inr (by first | (simp; done) | (simp; omega) | omega)) _)
              exact HW1.out
            · go_wp2_with fail
              go_ret
              refine ⟨ret_b (by simp [rightF, H0.out, ans_ext, q0, q1, q2, q3]), ?_⟩
              repeat (refine Only.setCell ?_ (.inr (by first | (simp; done) | (simp; omega) | omega)) _)
              exact HW1.out
            · go_wp2_with fail
              refine (HP.out w1 _ Ap cp [w.heap.size + 1 + 1 + 1 + 1, w.heap.size + 1] ?hs1 ?hs2 HOw.out (by intro g hg; simp at hg; omega)).mono ?_
              case hs1 =>
                iterate 4 (refine Only.setCell ?_ (.inl (by simp)) _)
                exact Only.refl _ _
              case hs2 =>
                iterate 4 (refine Only.setCell ?_ (.inr (by first | (simp; done) | (simp; omega) | omega)) _)
                exact HW1.out
              rintro e w2 ⟨rfl, ho2⟩
              go_wp2_with fail
              go_ret
              refine ⟨ret_b (by simp [rightF, H0.out, ans_ext, q0, q1, q2, q3]), ?_⟩
              refine Only.trans ?_ ho2
              iterate 4 (refine Only.setCell ?_ (.inr (by first | (simp; done) | (simp; omega) | omega)) _)
              exact HW1.out
          · go_wp2_with fail
            go_ret
            refine ⟨ret_b (by simp [rightF, H0.out, ans_ext, q0, q1, q2, q3]), ?_⟩
            repeat (refine Only.setCell ?_ (.inr (by first | (simp; done) | (simp; omega) | omega)) _)
            exact HW1.out
        · go_wp2_with fail
          go_ret
          refine ⟨ret_b (by simp [rightF, H0.out, ans_ext, q0, q1, q2]), ?_⟩
          repeat (refine Only.setCell ?_ (.inr (by first | (simp; done) | (simp; omega) | omega)) _)
          exact HW1.out
      · go_wp2_with fail
        go_ret
        refine ⟨ret_b (by simp [rightF, H0.out, ans_ext, q0, q1]), ?_⟩
        repeat (refine Only.setCell ?_ (.inr (by first | (simp; done) | (simp; omega) | omega)) _)
        exact HW1.out
    · go_wp2_with fail
      go_ret
      refine ⟨ret_b (by simp [rightF, H0.out, ans_ext, q0]), ?_⟩
      repeat (refine Only.setCell ?_ (.inr (by first | (simp; done) | (simp; omega) | omega)) _)
      exact HW1.out
end
end Go.Proofs.YteinoiicnmemhaaGreatDoor
/- Explain, plain: a spoilt answer is not right. -/
set_option linter.unusedVariables false
set_option linter.unusedSimpArgs false
namespace Go.Proofs.YteinoiicnmemhaaGreatDoor
open Go.RowKit Go Go.Sort
theorem pageBy_err (key : StoredR → Int) (l : List StoredR) (f n : Int) (back : Bool) : (pageBy key l f n back).2 = 0 ∨ (pageBy key l f n back).2 = 1 := by
  unfold pageBy
  split <;> simp
theorem readQ_err (s : MS) (q : ReqV) : (readQ s q).2 ≠ 25 := by
  have h1 := pageBy_err StoredR.position s.seenAll q.fr q.n q.back
  have h2 := pageBy_err StoredR.version (s.seenL q.x.c.stream) q.fr q.n q.back
  unfold readQ MS.readP
  repeat' split
  all_goals first | omega | simp
section
variable {s : MS} {c : Cmd} {a : Ans} {d : DoneV}
end
/-- The numbers of a place's state. -/
theorem run_inv : ∀ (l : List EntV) {s : MS} {N : Nat}, s.Inv → s.Inv2 → s.Ok N → (runE s l).Inv ∧ (runE s l).Inv2 ∧ (runE s l).Ok (N + l.length)
  | [], s, N, h1, h2, h3 => ⟨h1, h2, h3⟩
  | e :: l, s, N, h1, h2, h3 => by
    have := run_inv l (s := (s.do e.x.c).2) (N := N + 1) (inv_do h1 e.x.c) (inv2_do h1 h2 e.x.c) (MS.do_ok h3 e.x.c)
    rw [show (e :: l).length = l.length + 1 from rfl, show N + (l.length + 1) = N + 1 + l.length by omega]
    exact this
end Go.Proofs.YteinoiicnmemhaaGreatDoor

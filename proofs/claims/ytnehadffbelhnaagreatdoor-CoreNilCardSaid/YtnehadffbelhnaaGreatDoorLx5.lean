/-
  The symbolic executor Lx, part 5: parts of values, places, literals, slices.
-/
import Derived.Test.YtnehadffbelhnaaGreatDoorLx4
import Derived.Maps.AppendAt
namespace Go.Lx
open Go.RowKit

def fieldK (P : Program) (s : TypeId) (f : Nat) (K : Nat → TypeId → Nat → Prop) : Prop :=
  match P.underlying s with
  | some (.struct fs) => getK (fun fd => sizeK P fd.type fun n => K fd.offset fd.type n) fs.toList f
  | _ => False
theorem fieldK_spec {P : Program} {s : TypeId} {f : Nat} {K : Nat → TypeId → Nat → Prop} (h : fieldK P s f K) :
    ∃ fs fd i, P.underlying s = some (.struct fs) ∧ fs[f]? = some fd ∧ P.info? fd.type = some i ∧ K fd.offset fd.type i.size := by
  unfold fieldK at h
  split at h
  · rename_i fs hfs
    obtain ⟨fd, h1, h⟩ := getK_spec h
    obtain ⟨i, hi, h⟩ := sizeK_spec h
    exact ⟨fs, fd, i, hfs, by simpa using h1, hi, h⟩
  · exact h.elim

def fieldAddrK (P : Program) (s : TypeId) (f : Nat) (x : LV) (K : LV → Prop) : Prop :=
  fieldK P s f fun off _ n => forkN (Nat.beq n 0) (match x with
    | .ptr l o => K (.ptr l (o + off))
    | .at l sz i o => K (.at l sz i (o + off))
    | .v (.pointer (some a)) => K (.v (.pointer (some (a.add off))))
    | _ => False)
theorem fieldAddrK_spec {P : Program} {M : Mem} {H : List LB} {s : TypeId} {f : Nat} {x : LV} {K : LV → Prop} (h : fieldAddrK P s f x K) :
    ValOk P M H (x.sc H.length) (fun e => Instr.fieldAt s (x.den e) f) K := by
  obtain ⟨fs, fd, i, h1, h2, h3, h⟩ := fieldK_spec h
  obtain ⟨hn, h⟩ := forkN_spec h
  have hn : i.size ≠ 0 := by intro h0; rw [h0] at hn; cases hn
  have fin : ∀ (a : Addr) (w : World), (Instr.fieldAt s (.pointer (some a)) f).run P w = .ok (.pointer (some (a.add fd.offset))) w := by
    intro a w
    simp only [Instr.fieldAt, Instr.sureAddr, Sem.run_bind, run_underlying h1, Result.andThen_ok, h2, Sem.run_pure, fieldPlace, run_sizeOf h3]
    rw [if_neg hn]; rfl
  match x, h with
  | .ptr l o, h => exact ⟨_, h, fun e own w _ hx => ⟨hx, fun w => by simp only [LV.den, fin, addr_add]⟩⟩
  | .at l sz j o, h => exact ⟨_, h, fun e own w _ hx => ⟨hx, fun w => by simp only [LV.den, fin, addr_add, Nat.add_assoc]⟩⟩
  | .v (.pointer (some a)), h => exact ⟨_, h, fun e own w _ hx => ⟨hx, fun w => by simp only [LV.den, fin]⟩⟩

def aggLK (K : List LV → Prop) : LV → Prop
  | .agg cs => K cs
  | .v x => match x with
    | .agg cs => K (cs.toList.map .v)
    | _ => False
  | _ => False
theorem aggLK_spec {K : List LV → Prop} {x : LV} (h : aggLK K x) : ∃ cs, K cs ∧ (∀ n, x.sc n → scL n cs) ∧ ∀ e, x.den e = .agg (denL e cs).toArray := by
  unfold aggLK at h
  split at h
  · exact ⟨_, h, fun n hn => hn, fun e => by simp only [LV.den]⟩
  · split at h
    · exact ⟨_, h, fun n _ => scL_v _ _, fun e => by simp only [LV.den, denL_v]⟩
    · exact h.elim
  · exact h.elim

/-- A part of an aggregate: n cells from off on. -/
def partK (P : Program) (t : TypeId) (n : Nat) (cs : List LV) (off : Nat) (K : LV → Prop) : Prop :=
  aggK P t fun g => dropK (takeK (mkK K g) · n) cs off
theorem partK_spec {P : Program} {t : TypeId} {i : TypeInfo} (hi : P.info? t = some i) {cs : List LV} {off : Nat} {K : LV → Prop} (h : partK P t i.size cs off K) :
    ∃ y, K y ∧ ∀ e n w, scL n cs → y.sc n ∧ (part t (denL e cs).toArray off).run P w = .ok (y.den e) w := by
  obtain ⟨d, hd, h⟩ := aggK_spec h
  obtain ⟨h1, h⟩ := dropK_spec h
  obtain ⟨h2, h⟩ := takeK_spec h
  obtain ⟨y, hy, hall⟩ := mkK_spec h
  refine ⟨y, hy, fun e n w hs => ?_⟩
  obtain ⟨h3, h4⟩ := hall e n (scL_take (scL_drop hs))
  refine ⟨h3, ?_⟩
  simp only [part, Sem.run_bind, run_isAgg hd, Result.andThen_ok]
  rcases h4 with ⟨hg, h4⟩ | ⟨hg, h4⟩
  · simp only [hg, if_true, Sem.run_bind, run_sizeOf hi, Result.andThen_ok, Sem.run_pure, h4]
    congr 2
    rw [denL_take, denL_drop]
    simp [List.take_drop]
  · simp only [hg, Bool.false_eq_true, if_false]
    have h5 : (denL e cs)[off]? = some (y.den e) := by
      have := congrArg (fun l => l[0]?) h4
      simp only [denL_take, denL_drop] at this
      rw [List.getElem?_take] at this
      split at this
      · rw [List.getElem?_drop] at this; simpa using this
      · simp at this
    have h6 : (denL e cs).toArray[off]? = some (y.den e) := by simpa using h5
    simp only [h6, Sem.run_pure]

def fieldValK (P : Program) (s : TypeId) (f : Nat) (x : LV) (K : LV → Prop) : Prop :=
  fieldK P s f fun off t n => aggLK (fun cs => partK P t n cs off K) x
theorem fieldValK_spec {P : Program} {M : Mem} {H : List LB} {s : TypeId} {f : Nat} {x : LV} {K : LV → Prop} (h : fieldValK P s f x K) :
    ValOk P M H (x.sc H.length) (fun e => Instr.field s (x.den e) f) K := by
  obtain ⟨fs, fd, i, h1, h2, h3, h⟩ := fieldK_spec h
  obtain ⟨cs, h, hsc, hden⟩ := aggLK_spec h
  obtain ⟨y, hy, hall⟩ := partK_spec h3 h
  refine ⟨y, hy, fun e own w _ hx => ?_⟩
  refine ⟨(hall e H.length w (hsc _ hx)).1, fun w => ?_⟩
  obtain ⟨h4, h5⟩ := hall e H.length w (hsc _ hx)
  simp only [Instr.field, Sem.run_bind, run_underlying h1, Result.andThen_ok, h2, hden e, asAgg, Sem.run_pure, h5]

def extractK (i : Nat) (x : LV) (K : LV → Prop) : Prop :=
  match x with
  | .tuple vs => getK K vs i
  | .v (.tuple vs) => getK (fun y => K (.v y)) vs.toList i
  | _ => False
theorem extractK_spec {P : Program} {M : Mem} {H : List LB} {i : Nat} {x : LV} {K : LV → Prop} (h : extractK i x K) :
    ValOk P M H (x.sc H.length) (fun e => Instr.extract (x.den e) i) K := by
  match x, h with
  | .tuple vs, h =>
    obtain ⟨y, h1, h⟩ := getK_spec h
    refine ⟨y, h, fun e own w _ hx => ?_⟩
    have : scL H.length vs := hx
    rw [scL_iff] at this
    refine ⟨this y (List.mem_of_getElem? h1), fun w => ?_⟩
    have h2 : (denL e vs).toArray[i]? = some (y.den e) := by simp [denL_getElem?, h1]
    simp only [LV.den, Instr.extract, h2, Sem.run_pure]
  | .v (.tuple vs), h =>
    obtain ⟨y, h1, h⟩ := getK_spec h
    refine ⟨.v y, h, fun e own w _ hx => ⟨trivial, fun w => ?_⟩⟩
    have h2 : vs[i]? = some y := by simpa using h1
    simp only [LV.den, Instr.extract, h2, Sem.run_pure]

/-! ### Literals -/
def fillK (P : Program) (place : Nat → (Nat → Nat → Prop) → Prop) (K : List LV → Prop) : List LV → List (Nat × LV) → Prop
  | cells, [] => K cells
  | cells, (i, x) :: r => place i fun off n => cellsK (fun vs => bif Nat.beq vs.length n then spliceK vs (fun cs => fillK P place K cs r) cells off else False) x

theorem fill_foldl (vs : List Value) : ∀ (cells : List Value) (off j : Nat), off + j + vs.length ≤ cells.length →
    (vs.zipIdx j).foldl (fun cs (x : Value × Nat) => cs.setIfInBounds (off + x.2) x.1) cells.toArray = (splice vs cells (off + j)).toArray := by
  induction vs with
  | nil => intro cells off j _; simp [splice_nil]
  | cons v vs ih =>
    intro cells off j h
    simp only [List.zipIdx_cons, List.foldl_cons]
    have h1 : cells.toArray.setIfInBounds (off + j) v = (cells.set (off + j) v).toArray := by simp
    rw [h1]
    have := ih (cells.set (off + j) v) off (j + 1) (by simp at h ⊢; omega)
    rw [this, over_set v vs cells (off + j) (by simp at h; omega)]; rfl

theorem fillK_spec {P : Program} {place : Nat → (Nat → Nat → Prop) → Prop} {pl : Nat → Option (Nat × Nat)}
    (hp : ∀ i K, place i K → ∃ off n, pl i = some (off, n) ∧ K off n) : ∀ {parts : List (Nat × LV)} {cells : List LV} {K : List LV → Prop}, fillK P place K cells parts →
    ∃ cs, K cs ∧ cs.length = cells.length ∧ (∀ n, scL n cells → (∀ q ∈ parts, q.2.sc n) → scL n cs) ∧
      ∀ e : Env, (∀ i, (e.s i).oneCell' = true) → Instr.fill pl (denL e cells).toArray (parts.map fun q => (q.1, q.2.den e)) = some (denL e cs).toArray
  | [], cells, K, h => ⟨cells, h, rfl, fun n hn _ => hn, fun e _ => rfl⟩
  | (i, x) :: r, cells, K, h => by
    obtain ⟨off, n, h1, h⟩ := hp _ _ h
    obtain ⟨vs, h, hvsc, hvden⟩ := cellsK_spec h
    obtain ⟨hl, h⟩ := bif_elim h
    have hl := Nat.eq_of_beq_eq_true hl
    obtain ⟨hle, h⟩ := spliceK_spec h
    obtain ⟨cs, h2, h3, h4, h5⟩ := fillK_spec hp h
    refine ⟨cs, h2, by rw [h3, splice_length], fun m hm hq => h4 m (scL_splice (hvsc m (hq (i, x) (by simp))) hm) (fun q hq' => hq q (by simp [hq'])), fun e he => ?_⟩
    simp only [List.map_cons, Instr.fill, h1, hvden e he]
    rw [if_neg (by simp [denL_length, hl]; omega)]
    rw [← h5 e he]
    congr 1
    have := fill_foldl (denL e vs) (denL e cells) off 0 (by simp [denL_length]; omega)
    simp only [Nat.add_zero] at this
    rw [denL_splice, ← this]
    rw [← Array.foldl_toList]
    simp


theorem run_mapM {P : Program} {α β : Type} (f : α → Sem β) (g : α → β) (w : World) : ∀ (l : List α), (∀ x ∈ l, (f x).run P w = .ok (g x) w) →
    (l.mapM f).run P w = .ok (l.map g) w
  | [], _ => rfl
  | x :: l, h => by
    have ih := run_mapM f g w l (fun y hy => h y (by simp [hy]))
    simp only [List.mapM_cons, Sem.run_bind, h x (by simp), Result.andThen_ok, ih, Sem.run_pure, List.map_cons]
theorem run_mapM_array {P : Program} {α β : Type} (f : α → Sem β) (g : α → β) (w : World) (l : Array α) (h : ∀ x ∈ l.toList, (f x).run P w = .ok (g x) w) :
    (l.mapM f).run P w = .ok (l.toList.map g).toArray w := by
  rw [Array.mapM_eq_mapM_toList]
  simp only [Sem.run_map, run_mapM f g w l.toList h, Result.andThen_ok]

def fieldsOk (P : Program) (fs : List Field) : Bool := fs.all fun fd => (P.info? fd.type).isSome
def buildK (P : Program) (t : TypeId) (parts : List (Nat × LV)) (K : LV → Prop) : Prop :=
  zeroK P t fun zs => match P.underlying t with
    | some (.struct fs) => bif fieldsOk P fs.toList then fillK P (fun i K => getK (fun fd => sizeK P fd.type fun n => K fd.offset n) fs.toList i) (fun cs => K (.agg cs)) zs parts else False
    | some (.array _ e) => sizeK P e fun n => fillK P (fun i K => K (i * n) n) (fun cs => K (.agg cs)) zs parts
    | _ => False
theorem buildK_spec {P : Program} {M : Mem} {H : List LB} {t : TypeId} {parts : List (Nat × LV)} {K : LV → Prop} (h : buildK P t parts K) :
    ValOk P M H (∀ q ∈ parts, q.2.sc H.length) (fun e => Instr.build t (parts.map fun q => (q.1, q.2.den e)).toArray) K := by
  obtain ⟨z, hz, h⟩ := zeroK_spec h
  split at h
  · rename_i fs hfs
    obtain ⟨hf, h⟩ := bif_elim h
    have hsz : ∀ w, ∀ x ∈ fs.toList, (do pure (x.offset, ← sizeOf x.type) : Sem (Nat × Nat)).run P w = .ok (x.offset, ((P.info? x.type).map (·.size)).getD 0) w := by
      intro w x hx
      have := List.all_eq_true.1 hf x hx
      obtain ⟨i, hi⟩ := Option.isSome_iff_exists.1 this
      simp only [Sem.run_bind, run_sizeOf hi, Result.andThen_ok, Sem.run_pure, hi]; rfl
    have hp : ∀ i (K : Nat → Nat → Prop), getK (fun fd => sizeK P fd.type fun n => K fd.offset n) fs.toList i →
        ∃ off n, ((fs.toList.map fun x : Field => (x.offset, ((P.info? x.type).map (·.size)).getD 0)).toArray[i]?) = some (off, n) ∧ K off n := by
      intro i K h
      obtain ⟨fd, h1, h⟩ := getK_spec h
      obtain ⟨j, hj, h⟩ := sizeK_spec h
      refine ⟨_, _, ?_, h⟩
      have : fs[i]? = some fd := by simpa using h1
      simp [this, hj]
    obtain ⟨cs, h2, h3, h4, h5⟩ := fillK_spec (pl := fun i => (fs.toList.map fun x : Field => (x.offset, ((P.info? x.type).map (·.size)).getD 0)).toArray[i]?) hp h
    refine ⟨_, h2, fun e own w hs hx => ⟨h4 _ (scL_v _ _) hx, fun w => ?_⟩⟩
    have h6 := h5 e hs.one
    rw [denL_v] at h6
    simp only [Instr.build, Sem.run_bind, hz, Result.andThen_ok, run_underlying hfs, run_mapM_array _ _ w fs (hsz w)]
    rw [Array.toArray_toList] at h6
    simp only [h6, LV.den, Sem.run_pure]
  · rename_i n e' he
    obtain ⟨i, hi, h⟩ := sizeK_spec h
    obtain ⟨cs, h2, h3, h4, h5⟩ := fillK_spec (pl := fun j => some (j * i.size, i.size)) (fun j K h => ⟨_, _, rfl, h⟩) h
    refine ⟨_, h2, fun e own w hs hx => ⟨h4 _ (scL_v _ _) hx, fun w => ?_⟩⟩
    have h6 := h5 e hs.one
    rw [denL_v, Array.toArray_toList] at h6
    simp only [Instr.build, Sem.run_bind, hz, Result.andThen_ok, run_underlying he, run_sizeOf hi, h6, LV.den, Sem.run_pure]
  · exact h.elim

/-! ### Slices -/
def allRaw : List LV → Bool
  | [] => true
  | x :: xs => match x with
    | .v _ => allRaw xs
    | _ => false
def chunks {β : Type} (sz : Nat) : Nat → List β → List (List β)
  | 0, _ => []
  | n + 1, l => l.take sz :: chunks sz n (l.drop sz)
theorem chunks_flatten {β : Type} (sz : Nat) : ∀ (n : Nat) (l : List β), l.length = n * sz → (chunks sz n l).flatten = l ∧ (∀ x ∈ chunks sz n l, x.length = sz) ∧ (chunks sz n l).length = n
  | 0, l, h => by
    have : l = [] := by simpa using h
    subst this; simp [chunks]
  | n + 1, l, h => by
    rw [Nat.succ_mul] at h
    obtain ⟨h1, h2, h3⟩ := chunks_flatten sz n (l.drop sz) (by simp; omega)
    refine ⟨by simp [chunks, h1], fun x hx => ?_, by simp [chunks, h3]⟩
    simp only [chunks, List.mem_cons] at hx
    rcases hx with rfl | hx
    · simp; omega
    · exact h2 x hx

/-- A new list. -/
theorem snocList_sat {M : Mem} {e : Env} {own : Nat → Nat → Prop} {w w' : World} {H : List LB} (hs : Sat M e own w H) (sz : Nat) (items : List (List Value)) (ty : TypeId) (v : Value)
    (hb : Below w.heap.size w w') (ho : w'.ownsRow 0 ty sz v items.length items.flatten) (hn : ∀ k, v.ownBlock = some k → w.heap.size ≤ k) (hi : ∀ x ∈ items, x.length = sz) (h1 : v.oneCell' = true) :
    Agree e (e.push H.length (v.ownBlock.getD 0) v) H.length ∧
    Sat M (e.push H.length (v.ownBlock.getD 0) v) (ownPush own H.length (fun k => v.ownBlock = some k)) w' (H ++ [.list sz items ty]) ∧
    Ext own w (ownPush own H.length (fun k => v.ownBlock = some k)) w' := by
  refine ⟨e.push_agree _ _ _, ?_, Ext.push hb hn⟩
  refine hs.push hb.size (fun k hk => hb.block k hk) (fun k hk => ⟨hn k hk, (ho.lt k hk).2⟩) ?_ trivial h1
  simp only [LB.sat, Env.push, if_true]
  refine ⟨by simp, fun hne => ?_, hi, ho⟩
  cases hv : v.ownBlock with
  | none => exact absurd hv hne
  | some k => rfl

def buildSliceK (P : Program) (M : Mem) (t : TypeId) (len : Nat) (parts : List (Nat × LV)) (H : List LB) (K : LV → List LB → Prop) : Prop :=
  match P.underlying t with
  | some (.slice e) => sizeK P e fun n => zeroK P e fun zs => bif Nat.ble len 16777216 && (Nat.ble (len * n) 16777216 && Nat.beq zs.length n) then
      fillK P (fun i K => K (i * n) n) (fun cs => bif allRaw cs then
          rawLK (fun us => M.lay (chunks n len us) fun its => snocK (.list n its e) H 0 fun l H' => K (.root l) H') cs
        else snocK (.cells cs e) H 0 fun l H' => K (.sl l 0 len len) H') ((List.replicate len zs).flatten) parts else False
  | _ => False

theorem zeros_eq (z : Array Value) (n len : Nat) (hz : z.size = n) (hn : 0 < n) : ((Array.range (len * n)).map (z[· % z.size]!)).toList = ((List.replicate len z.toList).flatten) := by
  apply List.ext_getElem?
  intro i
  rcases Nat.lt_or_ge i (len * n) with hi | hi
  · have h1 : ((List.replicate len z.toList).flatten)[i]? = some z[i % n]! := by
      have := flatten_item (items := List.replicate len z.toList) (sz := n) (i := i / n) (j := i % n) (it := z.toList) (u := z[i % n]!)
        (by intro x hx; rw [List.mem_replicate] at hx; rw [hx.2]; simpa using hz)
        (by rw [List.getElem?_replicate]; rw [if_pos]; exact (Nat.div_lt_iff_lt_mul hn).2 hi)
        (by
          have : i % n < z.size := by rw [hz]; exact Nat.mod_lt _ hn
          simp [this])
      rw [← this]; congr 1; rw [Nat.mul_comm]; exact (Nat.div_add_mod i n).symm
    rw [h1]
    simp [hi, hz]
  · rw [List.getElem?_eq_none (by simpa using hi), List.getElem?_eq_none]
    simp [hz]; exact hi

theorem buildSliceK_spec {P : Program} {M : Mem} {H : List LB} {t : TypeId} {len : Nat} {parts : List (Nat × LV)} {K : LV → List LB → Prop} (h : buildSliceK P M t len parts H K) :
    MemOk P M H (∀ q ∈ parts, q.2.sc H.length) (fun e => Instr.buildSlice t len (parts.map fun q => (q.1, q.2.den e)).toArray) K := by
  unfold buildSliceK at h
  split at h
  · rename_i el hel
    obtain ⟨i, hi, h⟩ := sizeK_spec h
    obtain ⟨z, hz, h⟩ := zeroK_spec h
    obtain ⟨hc, h⟩ := bif_elim h
    simp only [Bool.and_eq_true] at hc
    have hle0 : len ≤ 16777216 := Nat.le_of_ble_eq_true hc.1
    have hle : len * i.size ≤ 16777216 := Nat.le_of_ble_eq_true hc.2.1
    have hzs : z.cells.size = i.size := by have := Nat.eq_of_beq_eq_true hc.2.2; simpa using this
    obtain ⟨cs, h, hcl, hcsc, hcden⟩ := fillK_spec (pl := fun j => some (j * i.size, i.size)) (fun j K h => ⟨_, _, rfl, h⟩) h
    have hcl : cs.length = len * i.size := by rw [hcl]; simp [hzs]
    have hscz : scL H.length ((List.replicate len (z.cells.toList.map LV.v)).flatten) := by
      rw [scL_iff]; intro x hx
      simp only [List.mem_flatten, List.mem_replicate] at hx
      obtain ⟨l, ⟨_, rfl⟩, hx⟩ := hx
      obtain ⟨y, _, rfl⟩ := List.mem_map.1 hx; trivial
    have hdz : ∀ e, denL e ((List.replicate len (z.cells.toList.map LV.v)).flatten) = (List.replicate len z.cells.toList).flatten := by
      intro e; rw [denL_eq_map, List.map_flatten, List.map_replicate]
      have : (z.cells.toList.map LV.v).map (LV.den e) = z.cells.toList := by rw [← denL_eq_map, denL_v]
      rw [this]
    have hrun : ∀ e own w, Sat M e own w H → (Instr.buildSlice t len (parts.map fun q => (q.1, q.2.den e)).toArray).run P w =
        .ok (.slice (some ⟨w.heap.size, 0, none⟩) len len) (w.alloc (.cells (denL e cs).toArray el)) := by
      intro e own w hs
      have h6 := hcden e hs.one
      rw [hdz] at h6
      simp only [Instr.buildSlice, Sem.run_bind, run_underlying hel, Result.andThen_ok, run_sizeOf hi]
      rw [if_neg (by omega)]
      by_cases h0 : len * i.size = 0
      · have hcs : cs = [] := by rw [h0] at hcl; simpa using hcl
        have h7 : (List.replicate len z.cells.toList).flatten = [] := by
          apply List.eq_nil_of_length_eq_zero; simp [hzs, h0]
        rw [h7] at h6
        simp only [h0, if_true, Sem.run_bind, Sem.run_pure, Result.andThen_ok]
        have h8 : Array.map (fun x => (#[] : Array Value)[x % (#[] : Array Value).size]!) (Array.range 0) = #[] := by simp
        rw [h8, h6]
        simp only [newRow, Sem.run_bind, run_newObj, Result.andThen_ok, Sem.run_pure, World.alloc_eq]
      · simp only [h0, if_false, Sem.run_bind, hz, Result.andThen_ok, Sem.run_pure]
        have hn : 0 < i.size := by
          rcases Nat.eq_zero_or_pos i.size with h9 | h9
          · rw [h9] at h0; simp at h0
          · exact h9
        have h8 : Array.map (fun x => z.cells[x % z.cells.size]!) (Array.range (len * i.size)) = ((List.replicate len z.cells.toList).flatten).toArray := by
          rw [← zeros_eq z.cells i.size len hzs hn, Array.toArray_toList]
        rw [h8, h6]
        simp only [newRow, Sem.run_bind, run_newObj, Result.andThen_ok, Sem.run_pure, World.alloc_eq]
    cases hr : allRaw cs
    · rw [hr] at h
      have h := snocK_len h
      refine ⟨_, _, h, by simp, fun e own w hs hx => ?_⟩
      obtain ⟨h1, h2, h3⟩ := snoc_sat hs cs el (hcsc _ hscz hx)
      refine ⟨_, _, _, h1, h2, h3, by simp [LV.sc], ?_⟩
      rw [hrun e own w hs]
      simp [LV.den, Env.push]
    · rw [hr] at h
      obtain ⟨us, h9, rfl⟩ := rawLK_spec h
      have h10 := snocK_len (M.layOk h9)
      refine ⟨_, _, h10, by simp, fun e own w hs hx => ?_⟩
      have hul : us.length = len * i.size := by simpa using hcl
      obtain ⟨k1, k2, k3⟩ := chunks_flatten i.size len us hul
      have hown : (w.alloc (.cells us.toArray el)).ownsRow 0 el i.size (.slice (some ⟨w.heap.size, 0, none⟩) len len) len us := by
        have := World.ownsRow_lit (base := 0) (e := el) (size := i.size) w us.toArray len (Nat.zero_le _) (by unfold maxLen; omega) (by simpa using hul)
        simpa using this
      obtain ⟨h1, h2, h3⟩ := snocList_sat (v := .slice (some ⟨w.heap.size, 0, none⟩) len len) hs i.size (chunks i.size len us) el
        (Below.alloc (Below.refl _ w) (Nat.le_refl _) (.cells us.toArray el)) (by rw [k3, k1]; exact hown) (fun k hk => by simp [Value.ownBlock] at hk; omega) k2 rfl
      refine ⟨_, _, _, h1, h2, h3, by simp [LV.sc], ?_⟩
      rw [hrun e own w hs, denL_v]
      simp [LV.den, Env.push]
  · exact h.elim
end Go.Lx

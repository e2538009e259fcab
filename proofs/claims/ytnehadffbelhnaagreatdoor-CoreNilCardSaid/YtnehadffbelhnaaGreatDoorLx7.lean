/-
  The symbolic executor Lx, part 7: make, append, reslicing; calls; one operation.
-/
import Derived.Test.YtnehadffbelhnaaGreatDoorLx6
namespace Go.Lx
open Go.RowKit

def makeSliceK (P : Program) (M : Mem) (t : TypeId) (x y : LV) (H : List LB) (K : LV → List LB → Prop) : Prop :=
  intLK (fun _ n => intLK (fun _ n' => M.chk (n = n') inferInstance <| M.chk (0 ≤ n) inferInstance <| match P.underlying t with
    | some (.slice e) => (match P.info? e with
      | some i => zeroK P e fun zs => rawLK (fun us => bif Nat.beq us.length i.size then
          M.chk ((i.bytes : Int) * n ≤ 281474976710656) inferInstance <| M.chk (n ≤ 9223372036854775807) inferInstance <| M.lay (List.replicate n.toNat us) fun its => snocK (.list i.size its e) H 0 fun l H' => K (.root l) H' else False) zs
      | none => False)
    | _ => False) y) x

theorem madeCells_flatten (z : Array Value) (m sz : Nat) (hz : z.size = sz) : (madeCells z (m * sz)).toList = (List.replicate m z.toList).flatten := by
  unfold madeCells
  rcases Nat.eq_zero_or_pos sz with h | h
  · subst h
    have : z = #[] := by simpa using hz
    subst this
    simp
  · have := zeros_eq z sz m hz h
    rw [← this]

theorem makeSliceK_spec {P : Program} {M : Mem} {H : List LB} {t : TypeId} {x y : LV} {K : LV → List LB → Prop} (h : makeSliceK P M t x y H K) :
    MemOk P M H True (fun e => Instr.makeSlice t (x.den e) (y.den e)) K := by
  obtain ⟨k, n, g, rfl⟩ := intLK_spec h
  obtain ⟨k', n', g, rfl⟩ := intLK_spec g
  clear h
  obtain ⟨hnn, g2⟩ := M.chkOk g
  obtain ⟨h0, h⟩ := M.chkOk g2
  clear g g2
  subst hnn
  split at h
  · rename_i el hel
    split at h
    · rename_i i hi
      obtain ⟨z, hz, h⟩ := zeroK_spec h
      obtain ⟨us, h, hus⟩ := rawLK_spec h
      have hus : us = z.cells.toList := by
        have := congrArg (fun l => denL ⟨fun _ => 0, fun _ => .nilIface⟩ l) hus
        simpa [denL_v] using this.symm
      subst hus
      obtain ⟨hsz, h⟩ := bif_elim h
      obtain ⟨h1, h⟩ := M.chkOk h
      obtain ⟨h2, h⟩ := M.chkOk h
      have h := M.layOk h
      have hsz := Nat.eq_of_beq_eq_true hsz
      have h := snocK_len h
      have hzi : i.zero = some z := by
        have := hz default
        simp only [zeroValue, Sem.run_bind, run_typeInfo hi, Result.andThen_ok] at this
        cases hzz : i.zero with
        | none => simp [hzz] at this
        | some z' => simp [hzz] at this; rw [this]
      have hzs : z.cells.size = i.size := by simpa using hsz
      obtain ⟨m, rfl⟩ := Int.eq_ofNat_of_zero_le h0
      refine ⟨_, _, h, by simp, fun e own w hs _ => ?_⟩
      obtain ⟨w', k1, k2, k3⟩ := run_make_full (w := w) (base := 0) t el i z i.size hel hi hzi rfl k k' m (by omega) (by unfold maxLen; omega) (Nat.zero_le _)
      have hb : Below w.heap.size w w' := ⟨k3.os, k3.tape, k3.output, k3.size, fun k hk => k3.block k hk (by simp)⟩
      rw [madeCells_flatten _ _ _ hzs] at k2
      have hm : (m : Int).toNat = m := by simp
      rw [hm]
      obtain ⟨g1, g2, g3⟩ := snocList_sat (v := .slice (some ⟨w.heap.size, 0, none⟩) m m) hs i.size (List.replicate m z.cells.toList) el hb (by simpa using k2)
        (fun k hk => by simp [Value.ownBlock] at hk; omega) (fun x hx => by rw [List.mem_replicate] at hx; rw [hx.2]; simpa using hzs) rfl
      refine ⟨_, _, _, g1, g2, g3, by simp [LV.sc], ?_⟩
      simp only [LV.den]
      rw [k1]; simp [Env.push]
    · exact h.elim
  · exact h.elim

def appK {β : Type} (K : List β → Prop) : List β → List β → Prop
  | [], ys => K ys
  | x :: xs, ys => appK (fun zs => K (x :: zs)) xs ys
theorem appK_spec {β : Type} : ∀ {xs ys : List β} {K : List β → Prop}, appK K xs ys → K (xs ++ ys)
  | [], _, _, h => h
  | _ :: xs, _, _, h => appK_spec (xs := xs) h

def chunkK (sz : Nat) : Nat → List LV → (List (List LV) → Prop) → Prop
  | 0, _, K => K []
  | n + 1, cs, K => takeK (fun a => dropK (fun r => chunkK sz n r fun rs => K (a :: rs)) cs sz) cs sz
theorem chunkK_spec {sz : Nat} : ∀ {n : Nat} {cs : List LV} {K : List (List LV) → Prop}, chunkK sz n cs K → K (chunks sz n cs)
  | 0, _, _, h => h
  | n + 1, cs, K, h => by
    obtain ⟨_, h⟩ := takeK_spec h
    obtain ⟨_, h⟩ := dropK_spec h
    exact chunkK_spec (n := n) h

/-- The source of an append: a list that is not empty, or the cells of a literal. -/
def srcK (x : LV) (H : List LB) (size : Nat) (Kr : List (List Value) → Prop) (Kl : List (List LV) → Prop) : Prop :=
  match x with
  | .root lx => getK (fun B => match B with
    | .list szx new _ => bif Nat.beq szx size then (match new with
      | [] => False
      | n0 :: ns => onesK (Kr (n0 :: ns)) ((n0 :: ns).flatten.map .v)) else False
    | _ => False) H lx
  | .sl lx off n _ => (match off with
    | 0 => (match n with
      | 0 => False
      | n + 1 => getK (fun B => match B with
        | .cells cs _ => bif Nat.beq cs.length ((n + 1) * size) then onesK (chunkK size (n + 1) cs Kl) cs else False
        | _ => False) H lx)
    | _ + 1 => False)
  | _ => False

def room (M : Mem) (n bytes : Nat) (K : Prop) : Prop := M.chk (n * bytes ≤ 140737488355328) inferInstance <| M.chk (n ≤ 9223372036854775807) inferInstance K
theorem room_ok {M : Mem} {n bytes : Nat} {K : Prop} (h : room M n bytes K) : n * bytes ≤ 140737488355328 ∧ n ≤ 9223372036854775807 ∧ K :=
  ⟨(M.chkOk h).1, M.chkOk (M.chkOk h).2⟩
def apartK (ls : Nat) (x : LV) (K : Prop) : Prop :=
  match x with
  | .root lx => bif Nat.beq ls lx then False else K
  | _ => K
theorem apartK_ok {ls : Nat} {x : LV} {K : Prop} (h : apartK ls x K) : K := by
  unfold apartK at h
  split at h
  · cases hb : Nat.beq ls _
    · rw [hb] at h; exact h
    · rw [hb] at h; exact h.elim
  · exact h
def tgtK (M : Mem) (s x : LV) (H : List LB) (el : TypeId) (size bytes : Nat) (K : LV → List LB → Prop) : Prop :=
  match s with
  | .root ls => apartK ls x <| getK (fun C => match C with
      | .list sz items ty => bif Nat.beq sz size && Nat.beq ty el then srcK x H size
          (fun new => room M (items.length + new.length) bytes <|
            M.app items new fun all => setK .gone (fun H1 => snocK (.list sz all el) H1 0 fun l H' => K (.root l) H') H ls)
          (fun new => match items with
            | [] => room M new.length bytes <| setK .gone (fun H1 => snocK (.rows sz new el) H1 0 fun l H' => K (.root l) H') H ls
            | _ => False) else False
      | .rows sz items ty => bif Nat.beq sz size && Nat.beq ty el then srcK x H size (fun _ => False)
          (fun new => room M (items.length + new.length) bytes <|
            appK (fun all => setK .gone (fun H1 => snocK (.rows sz all el) H1 0 fun l H' => K (.root l) H') H ls) items new) else False
      | _ => False) H ls
  | .v (.slice none 0 0) => srcK x H size
      (fun new => room M new.length bytes <| snocK (.list size new el) H 0 fun l H' => K (.root l) H')
      (fun new => room M new.length bytes <| snocK (.rows size new el) H 0 fun l H' => K (.root l) H')
  | _ => False

def appendK (P : Program) (M : Mem) (t : TypeId) (s x : LV) (H : List LB) (K : LV → List LB → Prop) : Prop :=
  match P.underlying t with
  | some (.slice el) => (match P.info? el with
    | some i => forkN (Nat.beq i.size 0) (zeroK P el fun zs => bif Nat.beq zs.length i.size then tgtK M s x H el i.size i.bytes K else False)
    | none => False)
  | _ => False

theorem zeroInfo {P : Program} {t : TypeId} {i : TypeInfo} {z : Value} (hi : P.info? t = some i) (hz : ∀ w, (zeroValue t).run P w = .ok z w) : i.zero = some z := by
  have := hz default
  simp only [zeroValue, Sem.run_bind, run_typeInfo hi, Result.andThen_ok] at this
  cases hzz : i.zero with
  | none => simp [hzz] at this
  | some z' => simp [hzz] at this; rw [this]

theorem bif_not {b : Bool} {K : Prop} (h : bif b then False else K) : b = false ∧ K := by cases b; exact ⟨rfl, h⟩; exact h.elim
/-- A world in which what is owned, and what is read, stays. -/
theorem Sat.move {M : Mem} {e : Env} {own : Nat → Nat → Prop} {w w' : World} {H : List LB} (h : Sat M e own w H)
    (hs : w.heap.size ≤ w'.heap.size) (hk : ∀ k, k < w.heap.size → (∃ i, own i k) → w'.heap[k]? = w.heap[k]?)
    (hM : ∀ a u, M.rom a = some u → w'.heap[a.block]? = w.heap[a.block]?) : Sat M e own w' H :=
  ⟨fun i B hB => ⟨LB.sat_keep (h.bl i B hB).1 hs (fun k hi hl => hk k hl ⟨i, hi⟩), (h.bl i B hB).2⟩, h.dj,
   fun i k hi => Nat.lt_of_lt_of_le (h.lt i k hi) hs, h.out,
   fun a u hu => ⟨(World.cell?_of_block (hM a u hu)).trans (h.ro a u hu).1, (h.ro a u hu).2⟩, h.one⟩

/-- A location is let go. -/
def ownDrop (own : Nat → Nat → Prop) (l : Nat) : Nat → Nat → Prop := fun i k => i ≠ l ∧ own i k
theorem Sat.drop {M : Mem} {e : Env} {own : Nat → Nat → Prop} {w : World} {H : List LB} (l : Nat) (h : Sat M e own w H) :
    Sat M e (ownDrop own l) w (H.set l .gone) := by
  refine ⟨fun i B hB => ?_, fun i j k hi hj => h.dj i j k hi.2 hj.2, fun i k hi => h.lt i k hi.2, fun i hi k hk => h.out i (by simpa using hi) k hk.2,
    fun a u hu => ⟨(h.ro a u hu).1, fun i hi => (h.ro a u hu).2 i hi.2⟩, h.one⟩
  rw [List.length_set]
  rw [List.getElem?_set] at hB
  split at hB
  · rename_i hli; subst hli
    split at hB
    · cases hB; exact ⟨fun k hk => hk.1 rfl, trivial⟩
    · cases hB
  · rename_i hne
    obtain ⟨h1, h2⟩ := h.bl i B hB
    have : ownDrop own l i = own i := by funext k; simp [ownDrop]; exact fun _ e => hne e.symm
    rw [this]; exact ⟨h1, h2⟩

/-- A new location, over whatever nobody owns. -/
theorem Sat.push' {M : Mem} {e : Env} {own : Nat → Nat → Prop} {w : World} {H : List LB} {B : LB} {b : Nat} {s : Value} {o : Nat → Prop}
    (h : Sat M e own w H) (ho : ∀ k, o k → k < w.heap.size) (hd : ∀ i k, own i k → ¬ o k) (hM : ∀ a u, M.rom a = some u → ¬ o a.block)
    (hB : B.sat (e.push H.length b s) H.length o w) (hsc : B.sc (H.length + 1)) (h1 : s.oneCell' = true) :
    Sat M (e.push H.length b s) (ownPush own H.length o) w (H ++ [B]) := by
  refine ⟨fun i B' hB' => ?_, fun i j k hi hj => ?_, fun i k hi => ?_, fun i hi k hk => ?_, fun a u hu => ?_, fun i => ?_⟩
  · rcases Nat.lt_or_ge i H.length with hi | hi
    · rw [List.getElem?_append_left hi] at hB'
      obtain ⟨h1, h2⟩ := h.bl i B' hB'
      refine ⟨?_, LB.sc_mono (by simp) h2⟩
      have : ownPush own H.length o i = own i := by funext k; simp only [ownPush]; rw [if_neg (by omega)]
      rw [this]
      exact LB.sat_agree (e.push_agree H.length b s) hi h2 h1
    · rw [List.getElem?_append_right hi] at hB'
      have hi0 : i - H.length = 0 := by
        rcases Nat.eq_zero_or_pos (i - H.length) with h0 | h0
        · exact h0
        · rw [List.getElem?_eq_none (by simp; omega)] at hB'; cases hB'
      have hie : i = H.length := by omega
      subst hie
      simp at hB'
      subst hB'
      refine ⟨?_, by simpa using hsc⟩
      have : ownPush own H.length o H.length = o := by funext k; simp [ownPush]
      rw [this]; exact hB
  · simp only [ownPush] at hi hj
    split at hi <;> split at hj
    · omega
    · exact absurd hi (hd _ _ hj)
    · exact absurd hj (hd _ _ hi)
    · exact h.dj i j k hi hj
  · simp only [ownPush] at hi
    split at hi
    · exact ho k hi
    · exact h.lt _ _ hi
  · simp only [List.length_append, List.length_cons, List.length_nil] at hi
    simp only [ownPush] at hk
    rw [if_neg (by omega)] at hk
    exact h.out i (by omega) k hk
  · refine ⟨(h.ro a u hu).1, fun i hi => ?_⟩
    simp only [ownPush] at hi
    split at hi
    · exact hM a u hu hi
    · exact (h.ro a u hu).2 i hi
  · simp only [Env.push]; split
    · exact h1
    · exact h.one i

/-- What an append reads. -/
structure Src (w : World) (e : Env) (x : LV) (size : Nat) (new : List (List Value)) : Prop where
  out : ∃ (a : Addr) (cap : Nat), x.den e = .slice (some a) new.length cap ∧ (∀ it ∈ new, it.length = size) ∧
    (∀ j u, new.flatten[j]? = some u → w.cell? (a.add j) = some u) ∧ ∀ u ∈ new.flatten, u.oneCell' = true

theorem flatten_length {items : List (List Value)} {sz : Nat} (h : ∀ x ∈ items, x.length = sz) : items.flatten.length = items.length * sz := by
  induction items with
  | nil => simp
  | cons x xs ih =>
    simp only [List.flatten_cons, List.length_append, List.length_cons, h x (.head _)]
    rw [ih (fun y hy => h y (.tail _ hy)), Nat.succ_mul]; omega

theorem srcK_spec {M : Mem} {H : List LB} {x : LV} {size : Nat} {Kr : List (List Value) → Prop} {Kl : List (List LV) → Prop} (h : srcK x H size Kr Kl) :
    (∃ new, Kr new ∧ new ≠ [] ∧ ∀ e own w, Sat M e own w H → Src w e x size new) ∨
    ∃ new, Kl new ∧ new ≠ [] ∧ ∀ e own w, Sat M e own w H → (∀ it ∈ new, scL H.length it) ∧ Src w e x size (new.map (denL e)) := by
  match x, h with
  | .root lx, h =>
    obtain ⟨B, hB, h⟩ := getK_spec h
    match B, hB, h with
    | .list szx [] tyx, hB, h => exact (bif_elim h).2.elim
    | .list szx (n0 :: ns) tyx, hB, h =>
      obtain ⟨hszx, h9⟩ := bif_elim h
      have hszx := Nat.eq_of_beq_eq_true hszx
      clear h
      subst hszx
      obtain ⟨h, hones⟩ := onesK_spec h9
      refine .inl ⟨_, h, by simp, fun e own w hs => ?_⟩
      have hsat := (hs.bl lx _ hB).1
      obtain ⟨cap, hv⟩ := list_slice hsat (by simp)
      exact ⟨⟨e.b lx, 0, none⟩, cap, hv, hsat.2.2.1, hsat.2.2.2.cells (by rw [hv]; rfl), fun u hu => hones e hs.one u (by rw [denL_v]; exact hu)⟩
  | .sl lx 0 (n + 1) cap, h =>
    obtain ⟨B, hB, h⟩ := getK_spec h
    match B, hB, h with
    | .cells cs ty, hB, h =>
      obtain ⟨hl, h9⟩ := bif_elim h
      have hl := Nat.eq_of_beq_eq_true hl
      clear h
      obtain ⟨h, hones⟩ := onesK_spec h9
      have h := chunkK_spec h
      have hch : ∀ (n : Nat) (cs : List LV) (e : Env), (chunks size n cs).map (denL e) = chunks size n (denL e cs) := by
        intro n
        induction n with
        | zero => intro cs e; rfl
        | succ n ih => intro cs e; simp only [chunks, List.map_cons, ih, denL_take, denL_drop]
      refine .inr ⟨_, h, by simp [chunks], fun e own w hs => ⟨fun it hit => ?_, ?_⟩⟩
      · have hsc : scL H.length cs := (hs.bl lx _ hB).2
        have aux : ∀ (n : Nat) (cs : List LV), scL H.length cs → ∀ it ∈ chunks size n cs, scL H.length it := by
          intro n
          induction n with
          | zero => intro cs _ it hit; simp [chunks] at hit
          | succ n ih =>
            intro cs hsc it hit
            simp only [chunks, List.mem_cons] at hit
            rcases hit with rfl | hit
            · exact scL_take hsc
            · exact ih _ (scL_drop hsc) it hit
        exact aux _ _ hsc it hit
      · rw [hch]
        obtain ⟨g1, g2, g3⟩ := chunks_flatten size (n + 1) (denL e cs) (by rw [denL_length]; exact hl)
        obtain ⟨_, hb⟩ := (hs.bl lx _ hB).1
        refine ⟨⟨e.b lx, 0, none⟩, cap, by rw [g3]; rfl, g2, fun j u hu => ?_, fun u hu => hones e hs.one u (by rw [g1] at hu; exact hu)⟩
        rw [g1] at hu
        rw [addr_add, cell_of_row w _ _ _ _ _ hb]
        simpa using hu

section
variable {P : Program} {M : Mem} {H : List LB} {t ty0 el : TypeId} {i : TypeInfo} {z : Value}
theorem append_root (hel : P.underlying t = some (.slice el)) (hi : P.info? el = some i) (hzi : i.zero = some z) (hzs : z.cells.size = i.size) (hpos : 0 < i.size)
    {ls : Nat} {x : LV} {items new : List (List Value)} {e : Env} {own : Nat → Nat → Prop} {w : World} {C B : LB} (hs : Sat M e own w H) (hC : H[ls]? = some C)
    (hsat : (LB.list i.size items el).sat e ls (own ls) w) (hsrc : Src w e x i.size new) (h1 : (items.length + new.length) * i.bytes ≤ 140737488355328) (h2 : items.length + new.length ≤ 9223372036854775807)
    (hB : ∀ (e' : Env) (o : Nat → Prop) (w' : World), Agree e e' H.length → (LB.list i.size (items ++ new) el).sat e' H.length o w' → B.sat e' H.length o w') (hBsc : B.sc (H.length + 1)) :
    ∃ e' own' w', Agree e e' H.length ∧ Sat M e' own' w' (H.set ls .gone ++ [B]) ∧ Ext own w own' w' ∧
      (Builtin.append_ #[t, t] ty0 #[(LV.root ls).den e, x.den e]).run P w = .ok ((LV.root H.length).den e') w' := by
  obtain ⟨sa, cap, hv, hlen, k2, k3⟩ := hsrc.out
  obtain ⟨v', w', g1, g2, g3, _, g5⟩ := run_append_own_at (P := P) (w := w) 0 t ty0 _ i z i.size i.bytes hel hi hzi rfl rfl hzs hpos (e.s ls) items.length items.flatten hsat.2.2.2
    sa new.length cap new.flatten (flatten_length hlen) k2 k3 (by unfold maxLen; omega) h1 (Nat.zero_le _)
  have hrow : ∀ k, (e.s ls).ownBlock = some k ↔ own ls k := fun k => (hsat.1 k).symm
  have d1 := Sat.drop ls hs
  have d2 : Sat M e (ownDrop own ls) w' (H.set ls .gone) := d1.move g3.size (fun k hk ⟨j, hj⟩ => g3.block k hk (fun he => hj.1 (hs.dj _ _ k hj.2 ((hrow k).1 he.symm))))
    (fun a u hu => g3.block _ (World.block_lt_of_cell? w a (hs.ro a u hu).1) (fun he => (hs.ro a u hu).2 ls ((hrow _).1 he.symm)))
  have hnew : ∀ k, v'.ownBlock = some k → own ls k ∨ k = w.heap.size := fun k hk => by
    rcases g5 with g5 | g5
    · exact .inl ((hrow k).1 (g5 ▸ hk))
    · rw [g5] at hk; exact .inr (by simpa using hk.symm)
  have hv1 : v'.oneCell' = true := by
    rcases g2.2 with ⟨rfl, _⟩ | ⟨_, _, _, rfl, _⟩ <;> rfl
  have d3 := d2.push' (B := B) (b := v'.ownBlock.getD 0) (s := v') (o := fun k => v'.ownBlock = some k)
    (fun k hk => (g2.lt k hk).2) (fun j k hj hk => by
      rcases hnew k hk with h5 | h5
      · exact hj.1 (hs.dj _ _ k hj.2 h5)
      · have := hs.lt _ _ hj.2; omega)
    (fun a u hu hk => by
      rcases hnew _ hk with h5 | h5
      · exact (hs.ro a u hu).2 ls h5
      · have := World.block_lt_of_cell? w a (hs.ro a u hu).1; omega)
    (by
      rw [List.length_set]
      refine hB _ _ _ (e.push_agree _ _ _) ?_
      simp only [LB.sat, Env.push, if_true]
      refine ⟨by simp, fun hne => ?_, fun y hy => ?_, ?_⟩
      · cases hvb : v'.ownBlock with
        | none => exact absurd hvb hne
        | some k => rfl
      · rcases List.mem_append.1 hy with hy | hy
        · exact hsat.2.2.1 y hy
        · exact hlen y hy
      · rw [List.length_append, List.flatten_append]; exact g2)
    (by rw [List.length_set]; exact hBsc) hv1
  rw [List.length_set] at d3
  refine ⟨_, _, w', e.push_agree _ _ _, d3, ⟨g3.os, g3.tape, g3.output, g3.size, fun k hk hn => g3.block k hk (fun he => hn ls ((hrow k).1 he.symm)), fun j k hj hk => ?_⟩, ?_⟩
  · simp only [ownPush] at hj
    split at hj
    · rcases hnew k hj with h5 | h5
      · exact ⟨ls, h5⟩
      · omega
    · exact ⟨j, hj.2⟩
  · simp only [LV.den, hv]
    rw [g1]; simp [Env.push]

theorem append_nil (hel : P.underlying t = some (.slice el)) (hi : P.info? el = some i) (hzi : i.zero = some z) (hzs : z.cells.size = i.size) (hpos : 0 < i.size)
    {x : LV} {new : List (List Value)} {e : Env} {own : Nat → Nat → Prop} {w : World} {B : LB} (hs : Sat M e own w H)
    (hsrc : Src w e x i.size new) (h1 : new.length * i.bytes ≤ 140737488355328) (h2 : new.length ≤ 9223372036854775807)
    (hB : ∀ (e' : Env) (o : Nat → Prop) (w' : World), Agree e e' H.length → (LB.list i.size new el).sat e' H.length o w' → B.sat e' H.length o w') (hBsc : B.sc (H.length + 1)) :
    ∃ e' own' w', Agree e e' H.length ∧ Sat M e' own' w' (H ++ [B]) ∧ Ext own w own' w' ∧
      (Builtin.append_ #[t, t] ty0 #[.slice none 0 0, x.den e]).run P w = .ok ((LV.root H.length).den e') w' := by
  obtain ⟨sa, cap, hv, hlen, k2, k3⟩ := hsrc.out
  obtain ⟨v', w', g1, g2, g3, _, g5⟩ := run_append_own_at (P := P) (w := w) 0 t ty0 _ i z i.size i.bytes hel hi hzi rfl rfl hzs hpos (.slice none 0 0) 0 [] (World.ownsRow_nil _ _ _ _)
    sa new.length cap new.flatten (flatten_length hlen) k2 k3 (by unfold maxLen; omega) (by simpa using h1) (Nat.zero_le _)
  have hv1 : v'.oneCell' = true := by
    rcases g2.2 with ⟨rfl, _⟩ | ⟨_, _, _, rfl, _⟩ <;> rfl
  have hb : Below w.heap.size w w' := ⟨g3.os, g3.tape, g3.output, g3.size, fun k hk => g3.block k hk (by simp [Value.ownBlock])⟩
  have hn : ∀ k, v'.ownBlock = some k → w.heap.size ≤ k := fun k hk => by
    rcases g5 with g5 | g5
    · rw [g5] at hk; simp [Value.ownBlock] at hk
    · rw [g5] at hk; simp at hk; omega
  have ho : w'.ownsRow 0 el i.size v' new.length new.flatten := by simpa using g2
  refine ⟨e.push H.length (v'.ownBlock.getD 0) v', ownPush own H.length (fun k => v'.ownBlock = some k), w', e.push_agree _ _ _, ?_, Ext.push hb hn, ?_⟩
  · refine hs.push hb.size (fun k hk => hb.block k hk) (fun k hk => ⟨hn k hk, (ho.lt k hk).2⟩) (hB _ _ _ (e.push_agree _ _ _) ?_) hBsc hv1
    simp only [LB.sat, Env.push, if_true]
    refine ⟨by simp, fun hne => ?_, hlen, ho⟩
    cases hvb : v'.ownBlock with
    | none => exact absurd hvb hne
    | some k => rfl
  · simp only [LV.den, hv]
    rw [g1]; simp [Env.push]

theorem rows_of_list {e e' : Env} {sz : Nat} {rows : List (List LV)} {items : List (List Value)} {el : TypeId} {n l : Nat} {o : Nat → Prop} {w' : World} (ha : Agree e e' n) (hsc : ∀ it ∈ rows, scL n it) (he : rows.map (denL e) = items)
    (h : (LB.list sz items el).sat e' l o w') : (LB.rows sz rows el).sat e' l o w' := by
  rw [LB.rows_sat, ← rows_agree ha hsc, he]; exact h

theorem appendK_spec {s x : LV} {K : LV → List LB → Prop} (h : appendK P M t s x H K) :
    MemOk P M H True (fun e => Builtin.append_ #[t, t] ty0 #[s.den e, x.den e]) K := by
  unfold appendK at h
  split at h
  · rename_i el hel
    split at h
    · rename_i i hi
      obtain ⟨hn0, h⟩ := forkN_spec h
      have hpos : 0 < i.size := by
        rcases Nat.eq_zero_or_pos i.size with h9 | h9
        · rw [h9] at hn0; cases hn0
        · exact h9
      obtain ⟨z, hz, h⟩ := zeroK_spec h
      obtain ⟨hzl, h⟩ := bif_elim h
      have hzs : z.cells.size = i.size := by have := Nat.eq_of_beq_eq_true hzl; simpa using this
      have hzi := zeroInfo hi hz
      match s, h with
      | .root ls, h =>
        have h := apartK_ok h
        obtain ⟨C, hC, h⟩ := getK_spec h
        match C, hC, h with
        | .list sz items ty, hC, h =>
          obtain ⟨hc, h9⟩ := bif_elim h
          simp only [Bool.and_eq_true] at hc
          have hsz := Nat.eq_of_beq_eq_true hc.1
          have hty := Nat.eq_of_beq_eq_true hc.2
          clear h hc
          subst hsz hty
          rcases srcK_spec (M := M) h9 with ⟨new, h, _, hsrc⟩ | ⟨new, h, _, hsrc⟩
          · obtain ⟨h1, h2, h⟩ := room_ok h
            have h := M.appOk h
            obtain ⟨_, h⟩ := setK_spec h
            have h := snocK_len h
            refine ⟨_, _, h, by simp, fun e own w hs _ => ?_⟩
            obtain ⟨e', own', w', k1, k2, k3, k4⟩ := append_root (ty0 := ty0) hel hi hzi hzs hpos hs hC (hs.bl ls _ hC).1 (hsrc e own w hs) h1 h2 (B := .list i.size (items ++ new) _) (fun _ _ _ _ h => h) trivial
            refine ⟨e', own', w', k1, k2, k3, ?_, ?_⟩
            · simp [LV.sc]
            · rw [k4, List.length_set]
          · match items, hC, h with
            | [], hC, h =>
              obtain ⟨h1, h2, h⟩ := room_ok h
              obtain ⟨_, h⟩ := setK_spec h
              have h := snocK_len h
              refine ⟨_, _, h, by simp, fun e own w hs _ => ?_⟩
              obtain ⟨hsc, hsrc⟩ := hsrc e own w hs
              obtain ⟨e', own', w', k1, k2, k3, k4⟩ := append_root (ty0 := ty0) hel hi hzi hzs hpos hs hC (hs.bl ls _ hC).1 hsrc (by simpa using h1) (by simpa using h2) (B := .rows i.size new _)
                (fun e' o w' ha h => rows_of_list ha hsc rfl h) (fun it hit => scL_mono (by omega) it (hsc it hit))
              refine ⟨e', own', w', k1, k2, k3, ?_, ?_⟩
              · simp [LV.sc]
              · rw [k4, List.length_set]
        | .rows sz items ty, hC, h =>
          obtain ⟨hc, h9⟩ := bif_elim h
          simp only [Bool.and_eq_true] at hc
          have hsz := Nat.eq_of_beq_eq_true hc.1
          have hty := Nat.eq_of_beq_eq_true hc.2
          clear h hc
          subst hsz hty
          rcases srcK_spec (M := M) h9 with ⟨new, h, _, hsrc⟩ | ⟨new, h, _, hsrc⟩
          · exact h.elim
          · obtain ⟨h1, h2, h⟩ := room_ok h
            have h := appK_spec h
            obtain ⟨_, h⟩ := setK_spec h
            have h := snocK_len h
            refine ⟨_, _, h, by simp, fun e own w hs _ => ?_⟩
            obtain ⟨hsc, hsrc⟩ := hsrc e own w hs
            obtain ⟨hsat, hisc⟩ := hs.bl ls _ hC
            have hall : ∀ it ∈ items ++ new, scL H.length it := fun it hit => by
              rcases List.mem_append.1 hit with hit | hit
              · exact hisc it hit
              · exact hsc it hit
            obtain ⟨e', own', w', k1, k2, k3, k4⟩ := append_root (ty0 := ty0) hel hi hzi hzs hpos hs hC (LB.rows_sat.1 hsat) hsrc (by simpa using h1) (by simpa using h2) (B := .rows i.size (items ++ new) _)
              (fun e' o w' ha h => rows_of_list ha hall (by rw [List.map_append]) h) (fun it hit => scL_mono (by omega) it (hall it hit))
            refine ⟨e', own', w', k1, k2, k3, ?_, ?_⟩
            · simp [LV.sc]
            · rw [k4, List.length_set]
      | .v (.slice none 0 0), h =>
        have h : srcK x H i.size
          (fun new => room M new.length i.bytes <| snocK (.list i.size new el) H 0 fun l H' => K (.root l) H')
          (fun new => room M new.length i.bytes <| snocK (.rows i.size new el) H 0 fun l H' => K (.root l) H') := h
        rcases srcK_spec (M := M) h with ⟨new, h, _, hsrc⟩ | ⟨new, h, _, hsrc⟩
        · obtain ⟨h1, h2, h⟩ := room_ok h
          have h := snocK_len h
          refine ⟨_, _, h, by simp, fun e own w hs _ => ?_⟩
          obtain ⟨e', own', w', k1, k2, k3, k4⟩ := append_nil (ty0 := ty0) hel hi hzi hzs hpos hs (hsrc e own w hs) h1 h2 (B := .list i.size new _) (fun _ _ _ _ h => h) trivial
          exact ⟨e', own', w', k1, k2, k3, by simp [LV.sc], k4⟩
        · obtain ⟨h1, h2, h⟩ := room_ok h
          have h := snocK_len h
          refine ⟨_, _, h, by simp, fun e own w hs _ => ?_⟩
          obtain ⟨hsc, hsrc⟩ := hsrc e own w hs
          obtain ⟨e', own', w', k1, k2, k3, k4⟩ := append_nil (ty0 := ty0) hel hi hzi hzs hpos hs hsrc (by simpa using h1) (by simpa using h2) (B := .rows i.size new _)
            (fun e' o w' ha h => rows_of_list ha hsc rfl h) (fun it hit => scL_mono (by omega) it (hsc it hit))
          exact ⟨e', own', w', k1, k2, k3, by simp [LV.sc], k4⟩
    · exact h.elim
  · exact h.elim
end
end Go.Lx

/-
  The symbolic executor Lx, part 16: the engine that runs: nothing is left open, values are kept in their shortest form.
-/
import Derived.Test.YtnehadffbelhnaaGreatDoorLx15r
namespace Go.Lx
open Go.RowKit

def forceN : Nat → (Nat → Prop) → Prop
  | 0, K => K 0
  | n + 1, K => K (Nat.succ n)
theorem forceN_ok {n : Nat} {K : Nat → Prop} (h : forceN n K) : K n := by cases n <;> exact h
def forceI : Int → (Int → Prop) → Prop
  | .ofNat n, K => forceN n fun n => K (.ofNat n)
  | .negSucc n, K => forceN n fun n => K (.negSucc n)
theorem forceI_ok {n : Int} {K : Int → Prop} (h : forceI n K) : K n := by cases n <;> exact forceN_ok h
def forceB : Bool → (Bool → Prop) → Prop
  | true, K => K true
  | false, K => K false
theorem forceB_ok {n : Bool} {K : Bool → Prop} (h : forceB n K) : K n := by cases n <;> exact h
def forceY : List UInt8 → (List UInt8 → Prop) → Prop
  | [], K => K []
  | x :: xs, K => forceN x.toNat fun n => forceY xs fun ys => K (UInt8.ofNat n :: ys)
theorem forceY_ok : ∀ {l : List UInt8} {K : List UInt8 → Prop}, forceY l K → K l
  | [], K, h => h
  | x :: xs, K, h => by
    have h1 := forceN_ok h
    have h2 := forceY_ok h1
    rwa [UInt8.ofNat_toNat] at h2
def normV (K : Value → Prop) : Value → Prop
  | .bool b => forceB b fun b => K (.bool b)
  | .int k n => forceI n fun n => K (.int k n)
  | .string s => match s with
    | ⟨d⟩ => match d with
      | ⟨l⟩ => forceY l fun l => K (.string ⟨⟨l⟩⟩)
  | .slice a n c => forceN n fun n => forceN c fun c => K (.slice a n c)
  | x => K x
theorem normV_ok {K : Value → Prop} {x : Value} (h : normV K x) : K x := by
  unfold normV at h
  split at h
  · exact forceB_ok h
  · exact forceI_ok h
  · split at h
    split at h
    exact forceY_ok h
  · exact forceN_ok (forceN_ok h)
  · exact h
def normK : LV → (LV → Prop) → Prop
  | .v x, K => normV (fun x => K (.v x)) x
  | .ptr l off, K => forceN l fun l => forceN off fun off => K (.ptr l off)
  | .at l sz i off, K => forceN l fun l => forceN i fun i => forceN off fun off => K (.at l sz i off)
  | .root l, K => forceN l fun l => K (.root l)
  | .sl l off n c, K => forceN l fun l => forceN off fun off => forceN n fun n => forceN c fun c => K (.sl l off n c)
  | .sub l sz p i n lim, K => forceN l fun l => forceN sz fun sz => forceN p fun p => forceN i fun i => forceN n fun n => (match lim with
    | none => K (.sub l sz p i n none)
    | some m => forceN m fun m => K (.sub l sz p i n (some m)))
  | x, K => K x
theorem normK_ok {x : LV} {K : LV → Prop} (h : normK x K) : K x := by
  unfold normK at h
  split at h
  · exact normV_ok h
  · exact forceN_ok (forceN_ok h)
  · exact forceN_ok (forceN_ok (forceN_ok h))
  · exact forceN_ok h
  · exact forceN_ok (forceN_ok (forceN_ok (forceN_ok h)))
  · have h := forceN_ok (forceN_ok (forceN_ok (forceN_ok (forceN_ok h))))
    split at h
    · exact h
    · exact forceN_ok h
  · exact h

/-! ### == of structs -/
def structsIn (P : Program) : Nat → TypeId → List Nat
  | 0, _ => []
  | d + 1, t => match P.underlying t with
    | some (.struct fs) => t :: fs.toList.flatMap fun f => structsIn P d f.type
    | some (.array _ el) => structsIn P d el
    | _ => []
def binRun (P : Program) (op : BinOp) (t : TypeId) (X Y : Value) (K : Value → Prop) : Prop :=
  match op, X, Y with
  | .eql, .agg xs, .agg ys => bif okS P (structsIn P 20 t) && memS t (structsIn P 20 t) then eqVK P (structsIn P 20 t) 10000 t (.agg xs) (.agg ys) (fun b => K (.bool b)) else False
  | .neq, .agg xs, .agg ys => bif okS P (structsIn P 20 t) && memS t (structsIn P 20 t) then eqVK P (structsIn P 20 t) 10000 t (.agg xs) (.agg ys) (fun b => K (.bool (!b))) else False
  | _, _, _ => False
theorem binRun_ok {P : Program} {op : BinOp} {t : TypeId} {xo yo : Operand} {X Y : Value} {K : Value → Prop} (h : binRun P op t X Y K) :
    RunsTo P (do eqGuard op t xo yo X Y; binOp op t X Y) K := by
  unfold binRun at h
  split at h
  · obtain ⟨hs, h⟩ := bif_elim h
    rw [Bool.and_eq_true] at hs
    exact .eql hs.1 hs.2 h
  · obtain ⟨hs, h⟩ := bif_elim h
    rw [Bool.and_eq_true] at hs
    exact .neq hs.1 hs.2 h
  · exact h.elim

theorem getK_ex {β : Type} {K : β → Prop} : ∀ {l : List β} {n : Nat}, getK K l n → ∃ x, K x ∧ ∀ K', K' x → getK K' l n
  | [], _, h => h.elim
  | x :: _, 0, h => ⟨x, h, fun _ h => h⟩
  | _ :: xs, n + 1, h => getK_ex (l := xs) h

/-! ### Equal terms -/
def valEqb : Value → Value → Bool
  | .bool a, .bool b => a == b
  | .int k a, .int k' b => decide (k = k') && decide (a = b)
  | .string a, .string b => a.data.toList == b.data.toList
  | .pointer a, .pointer b => decide (a = b)
  | .slice a n c, .slice a' n' c' => decide (a = a') && (Nat.beq n n' && Nat.beq c c')
  | .map a, .map b => decide (a = b)
  | .nilFunc, .nilFunc => true
  | .nilIface, .nilIface => true
  | .iface t x, .iface t' x' => Nat.beq t t' && valEqb x x'
  | _, _ => false
theorem valEqb_eq : ∀ {x y : Value}, valEqb x y = true → x = y
  | .bool a, y, h => by cases y <;> simp [valEqb] at h; rw [h]
  | .int k a, y, h => by cases y <;> simp [valEqb] at h; rw [h.1, h.2]
  | .string a, y, h => by
    cases y <;> simp [valEqb] at h
    rename_i b
    cases a; cases b; simp at h; simp [h]
  | .pointer a, y, h => by cases y <;> simp [valEqb] at h; rw [h]
  | .slice a n c, y, h => by cases y <;> simp [valEqb] at h; rw [h.1, h.2.1, h.2.2]
  | .map a, y, h => by cases y <;> simp [valEqb] at h; rw [h]
  | .nilFunc, y, h => by cases y <;> simp [valEqb] at h; rfl
  | .nilIface, y, h => by cases y <;> simp [valEqb] at h; rfl
  | .iface t x, y, h => by
    cases y <;> simp [valEqb] at h
    rename_i t' x'
    rw [h.1, valEqb_eq h.2]
  | .float .., y, h | .complex .., y, h | .chan .., y, h | .func .., y, h | .agg .., y, h | .tuple .., y, h => by cases y <;> simp [valEqb] at h
def fnEqb : Fn → Fn → Bool
  | .func f, .func g => Nat.beq f g
  | .method a, .method b => a == b
  | _, _ => false
theorem fnEqb_eq : ∀ {x y : Fn}, fnEqb x y = true → x = y
  | .func f, y, h => by cases y <;> simp [fnEqb] at h; rw [h]
  | .method f, y, h => by cases y <;> simp [fnEqb] at h; rw [h]
  | .methodOf .., y, h | .via .., y, h | .yield .., y, h => by cases y <;> simp [fnEqb] at h
mutual
def LV.eqb : LV → LV → Bool
  | .v x, .v y => valEqb x y
  | .ptr l o, .ptr l' o' => Nat.beq l l' && Nat.beq o o'
  | .at l s i o, .at l' s' i' o' => Nat.beq l l' && (Nat.beq s s' && (Nat.beq i i' && Nat.beq o o'))
  | .root l, .root l' => Nat.beq l l'
  | .sl l o n c, .sl l' o' n' c' => Nat.beq l l' && (Nat.beq o o' && (Nat.beq n n' && Nat.beq c c'))
  | .sub l s p i n m, .sub l' s' p' i' n' m' => Nat.beq l l' && (Nat.beq s s' && (Nat.beq p p' && (Nat.beq i i' && (Nat.beq n n' && decide (m = m')))))
  | .func f a b, .func f' a' b' => fnEqb f f' && (eqbL a a' && eqbL b b')
  | .iface t x, .iface t' x' => Nat.beq t t' && LV.eqb x x'
  | .agg a, .agg b => eqbL a b
  | .tuple a, .tuple b => eqbL a b
  | _, _ => false
def eqbL : List LV → List LV → Bool
  | [], [] => true
  | x :: xs, y :: ys => LV.eqb x y && eqbL xs ys
  | _, _ => false
end
mutual
theorem LV.eqb_eq : ∀ {x y : LV}, LV.eqb x y = true → x = y
  | .v x, y, h => by cases y <;> simp [LV.eqb] at h; rw [valEqb_eq h]
  | .ptr l o, y, h => by cases y <;> simp [LV.eqb] at h; rw [h.1, h.2]
  | .at l s i o, y, h => by cases y <;> simp [LV.eqb] at h; rw [h.1, h.2.1, h.2.2.1, h.2.2.2]
  | .root l, y, h => by cases y <;> simp [LV.eqb] at h; rw [h]
  | .sl l o n c, y, h => by cases y <;> simp [LV.eqb] at h; rw [h.1, h.2.1, h.2.2.1, h.2.2.2]
  | .sub l s p i n m, y, h => by cases y <;> simp [LV.eqb] at h; rw [h.1, h.2.1, h.2.2.1, h.2.2.2.1, h.2.2.2.2.1, h.2.2.2.2.2]
  | .func f a b, y, h => by
    cases y <;> simp [LV.eqb] at h
    rw [fnEqb_eq h.1, eqbL_eq h.2.1, eqbL_eq h.2.2]
  | .iface t x, y, h => by
    cases y <;> simp [LV.eqb] at h
    rw [h.1, LV.eqb_eq h.2]
  | .agg a, y, h => by cases y <;> simp [LV.eqb] at h; rw [eqbL_eq h]
  | .tuple a, y, h => by cases y <;> simp [LV.eqb] at h; rw [eqbL_eq h]
theorem eqbL_eq : ∀ {x y : List LV}, eqbL x y = true → x = y
  | [], y, h => by cases y <;> simp [eqbL] at h; rfl
  | x :: xs, y, h => by
    cases y <;> simp [eqbL] at h
    rw [LV.eqb_eq h.1, eqbL_eq h.2]
end
def listEqb {β : Type} (f : β → β → Bool) : List β → List β → Bool
  | [], [] => true
  | x :: xs, y :: ys => f x y && listEqb f xs ys
  | _, _ => false
theorem listEqb_eq {β : Type} {f : β → β → Bool} (hf : ∀ x y, f x y = true → x = y) : ∀ {x y : List β}, listEqb f x y = true → x = y
  | [], y, h => by cases y <;> simp [listEqb] at h; rfl
  | x :: xs, y, h => by
    cases y <;> simp [listEqb] at h
    rw [hf _ _ h.1, listEqb_eq hf h.2]
def meEqb (x y : ME) : Bool := valEqb x.key y.key && (LV.eqb x.val y.val && Nat.beq x.born y.born)
theorem meEqb_eq {x y : ME} (h : meEqb x y = true) : x = y := by
  cases x; cases y
  simp [meEqb] at h
  rw [valEqb_eq h.1, LV.eqb_eq h.2.1, h.2.2]
def LB.eqb : LB → LB → Bool
  | .cells a t, .cells b t' => Nat.beq t t' && eqbL a b
  | .list s a t, .list s' b t' => Nat.beq t t' && (Nat.beq s s' && listEqb (listEqb valEqb) a b)
  | .rows s a t, .rows s' b t' => Nat.beq t t' && (Nat.beq s s' && listEqb eqbL a b)
  | .map a c, .map b c' => Nat.beq c c' && listEqb meEqb a b
  | .gone, .gone => true
  | _, _ => false
theorem LB.eqb_eq : ∀ {x y : LB}, LB.eqb x y = true → x = y
  | .cells a t, y, h => by cases y <;> simp [LB.eqb] at h; rw [h.1, eqbL_eq h.2]
  | .list s a t, y, h => by
    cases y <;> simp [LB.eqb] at h
    rw [h.1, h.2.1, listEqb_eq (fun _ _ => listEqb_eq fun _ _ => valEqb_eq) h.2.2]
  | .rows s a t, y, h => by
    cases y <;> simp [LB.eqb] at h
    rw [h.1, h.2.1, listEqb_eq (fun _ _ => eqbL_eq) h.2.2]
  | .map a c, y, h => by
    cases y <;> simp [LB.eqb] at h
    rw [h.1, listEqb_eq (fun _ _ => meEqb_eq) h.2]
  | .gone, y, h => by cases y <;> simp [LB.eqb] at h; rfl
  | .res .., y, h => by cases y <;> simp [LB.eqb] at h
/-- A list in its shortest form. -/
def layL {β : Type} : List β → (List β → Prop) → Prop
  | [], K => K []
  | x :: xs, K => layL xs fun ys => K (x :: ys)
theorem layL_ok {β : Type} : ∀ {l : List β} {K : List β → Prop}, layL l K → K l
  | [], _, h => h
  | _ :: xs, _, h => layL_ok (l := xs) h
def layLL {β : Type} : List (List β) → (List (List β) → Prop) → Prop
  | [], K => K []
  | x :: xs, K => layL x fun y => layLL xs fun ys => K (y :: ys)
theorem layLL_ok {β : Type} : ∀ {l : List (List β)} {K : List (List β) → Prop}, layLL l K → K l
  | [], _, h => h
  | _ :: xs, _, h => layLL_ok (l := xs) (layL_ok h)

theorem bif_dec {p : Prop} {d : Decidable p} {K : Prop} (h : bif @decide p d then K else False) : p ∧ K := by
  obtain ⟨h1, h2⟩ := bif_elim h
  exact ⟨of_decide_eq_true h1, h2⟩

theorem dropK_of {β : Type} {K : List β → Prop} : ∀ {l : List β} {n : Nat}, n ≤ l.length → K (l.drop n) → dropK K l n
  | _, 0, _, h => h
  | [], n + 1, hn, _ => by simp at hn
  | x :: xs, n + 1, hn, h => dropK_of (l := xs) (n := n) (by simpa using hn) (by simpa using h)
theorem takeK_of {β : Type} : ∀ {l : List β} {n : Nat} {K : List β → Prop}, n ≤ l.length → K (l.take n) → takeK K l n
  | _, 0, K, _, h => by rw [List.take_zero] at h; exact h
  | [], n + 1, _, hn, _ => by simp at hn
  | x :: xs, n + 1, K, hn, h => takeK_of (l := xs) (n := n) (K := fun ys => K (x :: ys)) (by simpa using hn) (by simpa using h)
theorem rawsK_of : ∀ {l : List Value} {K : List LV → Prop}, K (l.map .v) → rawsK l K
  | [], _, h => h
  | x :: xs, K, h => rawsK_of (l := xs) (K := fun ys => K (.v x :: ys)) h
/-- Tables that are only read: by the variable's number. -/
abbrev Laid := List (Nat × List Value)
def Laid.ok (G : Laid) (M : Rom) : Prop := ∀ b cs, G.lookup b = some cs → ∀ i v, cs[i]? = some v → M ⟨b, i, none⟩ = some v
def rdRun (G : Laid) (a : Addr) (n : Nat) (K : List LV → Prop) : Prop :=
  match a with
  | ⟨b, off, spot⟩ => (match spot with
    | none => (match G.lookup b with
      | some cs => dropK (fun r => takeK (fun zs => rawsK zs K) r n) cs off
      | none => False)
    | some _ => False)
theorem rdRun_spec {G : Laid} {a : Addr} {n : Nat} {K : List LV → Prop} (h : rdRun G a n K) : ∃ cs, a.spot = none ∧ G.lookup a.block = some cs ∧ a.off + n ≤ cs.length ∧ K (((cs.drop a.off).take n).map .v) ∧
    ∀ K', K' (((cs.drop a.off).take n).map .v) → rdRun G a n K' := by
  obtain ⟨b, off, spot⟩ := a
  cases spot with
  | some _ => exact h.elim
  | none =>
    simp only [rdRun] at h ⊢
    cases hg : G.lookup b with
    | none => rw [hg] at h; exact h.elim
    | some cs =>
      rw [hg] at h
      obtain ⟨h1, h2⟩ := dropK_spec h
      obtain ⟨h3, h4⟩ := takeK_spec h2
      refine ⟨cs, by first | rfl | trivial, by first | rfl | exact hg, by simp at h3; omega, rawsK_ok h4, fun K' hk => ?_⟩
      exact dropK_of h1 (takeK_of h3 (rawsK_of hk))
theorem rdRun_ok {G : Laid} {M : Rom} (hG : G.ok M) {a : Addr} {n : Nat} {K : List LV → Prop} (h : rdRun G a n K) : RdK M a n K := by
  obtain ⟨cs, h1, h2, h3, h4, _⟩ := rdRun_spec h
  refine ⟨⟨_, by simp; omega, fun j u hj => ?_, h4⟩⟩
  rw [List.getElem?_take] at hj
  split at hj
  · rw [List.getElem?_drop] at hj
    have := hG a.block cs h2 (a.off + j) u hj
    obtain ⟨b, off, spot⟩ := a
    simp only at h1; subst h1
    rw [addr_add]; exact this
  · cases hj

/-- Nothing is read but tables, and what the run itself made. -/
def Mem.run (M : Rom) (G : Laid) (hG : G.ok M) : Mem where
  chk p d K := bif @decide p d then K else False
  chkOk h := bif_dec h
  app a b K := appK K a b
  appOk h := appK_spec h
  put l i x K := setK x K l i
  putOk h := (setK_spec h).2
  lay l K := layLL l K
  layOk h := layLL_ok h
  eqv x y K := bif LV.eqb x y then K else False
  eqvOk h := ⟨LV.eqb_eq (bif_elim h).1, (bif_elim h).2⟩
  eqB x y K := bif LB.eqb x y then K else False
  eqBOk h := ⟨LB.eqb_eq (bif_elim h).1, (bif_elim h).2⟩
  ones l K := bif l.all (fun it => it.all fun v => v.oneCell') then K else False
  onesOk h := ⟨oneAll_of (bif_elim h).1, (bif_elim h).2⟩
  rom := M
  item items i K := getK K items i
  itemOk h := ⟨getK_spec h⟩
  itemEx h := getK_ex h
  rd a n K := rdRun G a n K
  rdOk h := rdRun_ok hG h
  rdEx h := let ⟨_, _, _, _, h1, h2⟩ := rdRun_spec h; ⟨_, h1, h2⟩
  bin P op t _ _ X Y K := binRun P op t X Y K
  binOk h := binRun_ok h

theorem Sat.mem {M M' : Mem} (hM : M.rom = M'.rom) {e : Env} {own : Nat → Nat → Prop} {w : World} {H : List LB} (h : Sat M e own w H) : Sat M' e own w H :=
  ⟨h.bl, h.dj, h.lt, h.out, hM ▸ h.ro, h.one⟩
theorem CallOk.mem {P : Program} {M M' : Mem} (hM : M.rom = M'.rom) {f : FuncId} {args : List LV} {H : List LB} {K : LV → List LB → Prop} (h : CallOk P M f args H K) : CallOk P M' f args H K :=
  ⟨h.enter, fun e own w hs hsc => (h.out e own w (hs.mem hM.symm) hsc).mono fun en w' ⟨e', own', H', r, h1, h2, h3, h4, h5, h6⟩ => ⟨e', own', H', r, h1, h2, h3, h4, h5.mem hM, h6⟩⟩

/-! ### Two orders that come to the same -/
def locOf : LV → Option Nat
  | .ptr l _ => some l
  | .at l _ _ _ => some l
  | .root l => some l
  | .sl l _ _ _ => some l
  | .sub l _ _ _ _ _ => some l
  | _ => none
def pairs (n0 : Nat) (tsB : TS) : TS → List (Nat × Nat)
  | [] => []
  | (k, x) :: r => match locOf x, (tsB.lookup k).bind locOf with
    | some a, some b => bif Nat.ble n0 a && Nat.ble n0 b then (a, b) :: pairs n0 tsB r else pairs n0 tsB r
    | _, _ => pairs n0 tsB r
def fillUp : List Nat → List (Nat × Nat) → List Nat → List Nat
  | [], _, _ => []
  | a :: r, ps, free => match ps.lookup a with
    | some b => b :: fillUp r ps free
    | none => match free with
      | [] => a :: fillUp r ps []
      | b :: free => b :: fillUp r ps free
def viewOf (n0 : Nat) (tsB : TS) (nB : Nat) (tsA : TS) (nA : Nat) : List Nat :=
  let ps := pairs n0 tsB tsA
  List.range n0 ++ fillUp (List.range' n0 (nA - n0)) ps ((List.range' n0 (nB - n0)).filter fun b => !memN b (ps.map (·.2)))
def viewTsB (m : List Nat) (ts : TS) : TS → Bool
  | [] => true
  | (k, x) :: r => (match ts.lookup k with
    | some y => LV.eqb y (x.ren m)
    | none => false) && viewTsB m ts r
theorem look_of {K : LV → Prop} {v : LV} (hv : K v) : ∀ {ts : TS} {n : Nat}, ts.lookup n = some v → look K ts n
  | [], n, h => by simp at h
  | (k, y) :: r, n, h => by
    show (Bool.rec (motive := fun _ => Prop) (look K r n) (K y) (Nat.beq k n))
    simp only [List.lookup] at h
    by_cases e : n = k
    · subst e; simp at h; subst h
      rw [Nat.beq_refl]; exact hv
    · have h1 : (n == k) = false := by simpa using e
      rw [h1] at h
      have h2 : Nat.beq k n = false := by
        cases hb : Nat.beq k n
        · rfl
        · exact absurd (Nat.eq_of_beq_eq_true hb).symm e
      rw [h2]; exact look_of hv h
theorem viewTsB_ok {m : List Nat} {ts : TS} : ∀ {ts2 : TS}, viewTsB m ts ts2 = true → viewTs m ts ts2
  | [], _ => trivial
  | (k, x) :: r, h => by
    simp only [viewTsB, Bool.and_eq_true] at h
    obtain ⟨h1, h2⟩ := h
    refine ⟨?_, viewTsB_ok h2⟩
    split at h1
    · rename_i y hy
      exact look_of (K := fun y => y = x.ren m) (LV.eqb_eq h1) hy
    · cases h1
def viewHB (m : List Nat) (H : List LB) : List LB → Nat → Bool
  | [], _ => true
  | B :: r, i => (match B with
    | .gone => true
    | B => (match H[at_ m i]? with
      | some B' => LB.eqb B' (B.ren m)
      | none => false)) && viewHB m H r (i + 1)
theorem getK_of {β : Type} {K : β → Prop} {x : β} (hx : K x) : ∀ {l : List β} {n : Nat}, l[n]? = some x → getK K l n
  | [], n, h => by simp at h
  | y :: r, 0, h => by simp at h; subst h; exact hx
  | y :: r, n + 1, h => getK_of (l := r) hx (by simpa using h)
theorem viewHB_ok {m : List Nat} {H : List LB} : ∀ {H2 : List LB} {i : Nat}, viewHB m H H2 i = true → viewH m H H2 i
  | [], _, _ => trivial
  | B :: r, i, h => by
    simp only [viewHB, Bool.and_eq_true] at h
    obtain ⟨h1, h2⟩ := h
    refine ⟨?_, viewHB_ok h2⟩
    cases B with
    | gone => trivial
    | _ =>
      simp only at h1
      split at h1
      · rename_i B' hB
        exact getK_of (K := fun B' => B' = LB.ren m _) (LB.eqb_eq h1) hB
      · cases h1
def sameRun (n0 : Nat) (tsB : TS) (HB : List LB) (tsA : TS) (HA : List LB) : Bool :=
  let m := viewOf n0 tsB HB.length tsA HA.length
  viewB n0 m HB tsA HA && (viewTsB m tsB tsA && viewHB m HB HA 0)
theorem sameRun_ok {n0 : Nat} {tsB : TS} {HB : List LB} {tsA : TS} {HA : List LB} (h : sameRun n0 tsB HB tsA HA = true) : ∃ m, ViewOk n0 m tsB HB tsA HA := by
  simp only [sameRun, Bool.and_eq_true] at h
  exact ⟨_, h.1, viewTsB_ok h.2.1, viewHB_ok h.2.2⟩
theorem memN_cons {n k : Nat} {l : List Nat} : memN n (k :: l) = (Nat.beq n k || memN n l) := rfl
def dedup : TS → List Nat → TS
  | [], _ => []
  | (k, v) :: r, seen => bif memN k seen then dedup r seen else (k, v) :: dedup r (k :: seen)

theorem dedup_lookup : ∀ {ts : TS} {seen : List Nat} {k : Nat} {x : LV}, (dedup ts seen).lookup k = some x → memN k seen = false ∧ ts.lookup k = some x
  | [], seen, k, x, h => by simp [dedup] at h
  | (k0, v) :: r, seen, k, x, h => by
    unfold dedup at h
    cases hm : memN k0 seen
    · rw [hm] at h
      simp only [cond_false, List.lookup] at h
      by_cases hk : k = k0
      · subst hk; simp at h; subst h; exact ⟨hm, by simp [List.lookup]⟩
      · have hb : (k == k0) = false := by simpa using hk
        rw [hb] at h
        obtain ⟨h1, h2⟩ := dedup_lookup h
        rw [memN_cons, Bool.or_eq_false_iff] at h1
        exact ⟨h1.2, by simp [List.lookup, hb, h2]⟩
    · rw [hm] at h
      obtain ⟨h1, h2⟩ := dedup_lookup h
      have hk : k ≠ k0 := fun he => by subst he; rw [hm] at h1; cases h1
      have hb : (k == k0) = false := by simpa using hk
      exact ⟨h1, by simp [List.lookup, hb, h2]⟩
def joinRun (n0 : Nat) (A B : (TS → List LB → Prop) → Prop) (K : TS → List LB → Prop) : Prop :=
  A fun tsA HA => B fun tsB HB => bif sameRun n0 tsB HB (dedup tsA []) HA then K (dedup tsA []) HA else False
theorem joinRun_ok {n0 : Nat} {A B : (TS → List LB → Prop) → Prop} {K : TS → List LB → Prop} (fA : ∀ K', A K' → ∃ ts H, K' ts H) (fB : ∀ K', B K' → ∃ ts H, K' ts H) (h : joinRun n0 A B K) :
    ∃ KA KB, A KA ∧ B KB ∧ (∀ ts H, KA ts H → Seen n0 K ts H) ∧ (∀ ts H, KB ts H → Seen n0 K ts H) := by
  obtain ⟨tsA, HA, hB⟩ := fA _ h
  refine ⟨_, _, h, hB, fun ts H hb => ?_, fun ts H hb => ?_⟩
  · obtain ⟨tsB, HB, h1⟩ := fB _ hb
    exact .inl ⟨_, fun k x hx => (dedup_lookup hx).2, (bif_elim h1).2⟩
  · obtain ⟨h1, h2⟩ := bif_elim hb
    obtain ⟨m, hv⟩ := sameRun_ok h1
    exact .inr ⟨m, _, HA, hv, h2⟩

/-! ### Loops: what is known at the start stays known -/
def restrK : TS → TS → (TS → Prop) → Prop
  | _, [], K => K []
  | ts, (k, _) :: r, K => look (fun v => restrK ts r fun ts' => K ((k, v) :: ts')) ts k
theorem restrK_ok {ts : TS} : ∀ {r : TS} {K : TS → Prop}, restrK ts r K → ∃ ts', K ts' ∧ ∀ k x, ts'.lookup k = some x → ts.lookup k = some x
  | [], K, h => ⟨[], h, fun k x hx => by simp at hx⟩
  | (k0, _) :: r, K, h => by
    obtain ⟨v, h1, h2⟩ := look_spec h
    obtain ⟨ts', h3, h4⟩ := restrK_ok h2
    refine ⟨_, h3, fun k x hx => ?_⟩
    simp only [List.lookup] at hx
    by_cases hk : k = k0
    · subst hk; simp at hx; subst hx; exact h1
    · have : (k == k0) = false := by simpa using hk
      rw [this] at hx
      exact h4 k x hx
abbrev Body := TS → List LB → Post → Prop
def loopF (V : Body) (keys : TS) (K : Post) : Nat → TS → List LB → Prop
  | 0, _, _ => False
  | n + 1, ts, H => restrK ts keys fun ts => V ts H fun x ts' H' => match x with
    | .normal => loopF V keys K n ts' H'
    | .exit id => K (.exit id) ts' H'
    | .goto l => K (.goto l) ts' H'
    | .ret => K .ret ts' H'
def scopeF (V : Code → Body) (c : Code) (K : Post) : Nat → Post
  | n, x, ts, H => match x with
    | .goto l => (match findLabel c l with
      | some rest => (match n with
        | 0 => False
        | n + 1 => V rest ts H (scopeF V c K n))
      | none => K (.goto l) ts H)
    | .normal => K .normal ts H
    | .exit id => K (.exit id) ts H
    | .ret => K .ret ts H

section
variable {P : Program} {M : Mem} {N : Nat}
theorem loopF_ok {V : Body} {c : Code} (hV : ∀ ts H K, V ts H K → CodeOk P M N c ts H K) {keys ts : TS} {H : List LB} {K : Post} (n : Nat) (h : loopF V keys K n ts H) : LoopOk P M N c ts H K := by
  refine ⟨⟨fun e own w a hs ht hN => ?_⟩⟩
  let St : Nat → Go.Act → World → Prop := fun n a' w' => ∃ e' own' ts' H', loopF V keys K n ts' H' ∧ H.length ≤ H'.length ∧ Agree e e' H.length ∧ Sat M e' own' w' H' ∧ Ext own w own' w' ∧ Tm e' H'.length ts' a' ∧ DefOk a.defers w own' w' a' ∧ a'.tmps.size = N
  refine wp_loop (fun a' w' => ∃ n, St n a' w') (fun a' w' => least (fun n => St n a' w')) ?_ ?_
  · exact ⟨n, e, own, ts, H, h, Nat.le_refl _, .refl _ _, hs, .refl _ _, ht, .of_eq rfl, hN⟩
  · rintro a1 w1 ⟨n1, hx1⟩
    obtain ⟨hSt, _⟩ := least_spec (p := fun n => St n a1 w1) ⟨n1, hx1⟩
    generalize hm : least (fun n => St n a1 w1) = m at hSt
    obtain ⟨e1, own1, ts0, H1, g0, g1, g2, g3, g4, g5, g6, g7⟩ := hSt
    cases m with
    | zero => exact g0.elim
    | succ m =>
      obtain ⟨ts1, g0, hl⟩ := restrK_ok g0
      have g5 : Tm e1 H1.length ts1 a1 := ⟨fun k x hx => g5.tm k x (hl k x hx)⟩
      refine wp_mono ((hV _ _ _ g0).out e1 own1 w1 a1 g3 g5 g7) fun ex a2 w2 hp => ?_
      obtain ⟨e2, own2, ts2, H2, lx, rfl, k1, k2, k3, k4, k5, k6, k7, k8⟩ := hp
      have fin : ∀ lx, K lx ts2 H2 → CPost M N e own w H K a.defers (LX.exit' lx) a2 w2 := fun lx hk => ⟨e2, own2, ts2, H2, lx, rfl, hk, by omega, g2.trans k3 g1, k4, g4.trans k5, k6, g6.trans g4.size k5 k7, k8⟩
      cases lx with
      | normal =>
        have hSy : St m a2 w2 := ⟨e2, own2, ts2, H2, k1, by omega, g2.trans k3 g1, k4, g4.trans k5, k6, g6.trans g4.size k5 k7, k8⟩
        have := least_le (p := fun n => St n a2 w2) (n := m) hSy
        exact ⟨⟨m, hSy⟩, by omega⟩
      | exit id => exact fin (.exit id) k1
      | goto l => exact fin (.goto l) k1
      | ret => exact fin .ret k1

theorem scopeF_ok {V : Code → Body} {c : Code} (hV : ∀ c', (c' = c ∨ ∃ l, findLabel c l = some c') → ∀ ts H K, V c' ts H K → CodeOk P M N c' ts H K) {ts : TS} {H : List LB} {K : Post} (n : Nat) (h : V c ts H (scopeF V c K n)) :
    ScopeOk P M N c ts H K := by
  refine ⟨⟨fun e own w a hs ht hN => ?_⟩⟩
  let J : Nat → Nat → Go.Act → World → Prop := fun k l a' w' => ∃ e' own' ts' H' rest, findLabel c l = some rest ∧ V rest ts' H' (scopeF V c K k) ∧ H.length ≤ H'.length ∧ Agree e e' H.length ∧ Sat M e' own' w' H' ∧ Ext own w own' w' ∧ Tm e' H'.length ts' a' ∧ DefOk a.defers w own' w' a' ∧ a'.tmps.size = N
  have after : ∀ (n : Nat) (e1 : Env) (own1 : Nat → Nat → Prop) (w1 : World) (H1 : List LB) (Y : Nat → Nat → Prop), (∀ k, k < n → Y k n) → H.length ≤ H1.length → Agree e e1 H.length → Ext own w own1 w1 → ∀ a1 : Go.Act, DefOk a.defers w own1 w1 a1 → ∀ ex a2 w2, CPost M N e1 own1 w1 H1 (scopeF V c K n) a1.defers ex a2 w2 →
      jumpQ c (fun l a' w' => ∃ k, Y k n ∧ J k l a' w') (CPost M N e own w H K a.defers) ex a2 w2 := by
    intro n e1 own1 w1 H1 Y hY hl hag hx a1 hd1 ex a2 w2 hp
    obtain ⟨e2, own2, ts2, H2, lx, rfl, k1, k2, k3, k4, k5, k6, k7, k8⟩ := hp
    have fin : ∀ lx, K lx ts2 H2 → CPost M N e own w H K a.defers (LX.exit' lx) a2 w2 := fun lx hk => ⟨e2, own2, ts2, H2, lx, rfl, hk, by omega, hag.trans k3 hl, k4, hx.trans k5, k6, hd1.trans hx.size k5 k7, k8⟩
    cases lx with
    | normal => exact fin .normal (by unfold scopeF at k1; exact k1)
    | exit id => exact fin (.exit id) (by unfold scopeF at k1; exact k1)
    | ret => exact fin .ret (by unfold scopeF at k1; exact k1)
    | goto l =>
      unfold scopeF at k1
      simp only [LX.exit', jumpQ]
      cases hl' : findLabel c l with
      | none => simp only [hl'] at k1; exact fin (.goto l) k1
      | some rest =>
        simp only [hl'] at k1
        cases n with
        | zero => exact k1.elim
        | succ n => exact ⟨n, hY n (by omega), e2, own2, ts2, H2, rest, hl', k1, by omega, hag.trans k3 hl, k4, hx.trans k5, k6, hd1.trans hx.size k5 k7, k8⟩
  refine wp_scope_gen J ?_ ?_
  · refine wp_mono ((hV c (.inl rfl) _ _ _ h).out e own w a hs ht hN) fun ex a2 w2 hp => ?_
    have := after n e own w H (fun _ _ => True) (fun _ _ => trivial) (Nat.le_refl _) (.refl _ _) (.refl _ _) a (.of_eq rfl) ex a2 w2 hp
    refine jumpQ_mono (fun l a' w' hh => ?_) this
    obtain ⟨k, _, hh⟩ := hh
    exact ⟨k, hh⟩
  · rintro n l a1 w1 rest hl ⟨e1, own1, ts1, H1, rest', hl', hv, g1, g2, g3, g4, g5, g6, g7⟩
    rw [hl] at hl'; cases hl'
    refine wp_mono ((hV rest (.inr ⟨l, hl⟩) _ _ _ hv).out e1 own1 w1 a1 g3 g5 g7) fun ex a2 w2 hp => ?_
    exact after n e1 own1 w1 H1 (fun k n => k < n) (fun k hk => hk) g1 g2 g4 a1 g6 ex a2 w2 hp
end
end Go.Lx

import Derived.Test.YtdmhefbbicadnaaGreatL9
/-! The lifted logic, part 10: operations that read, that write, calls; one operation as the region's walk wants it. -/
namespace Go.Lift

/-! ### Kind r -/

def astrSlice (s : ByteArray) (lo hi mx : Option Value) (K : Value → Prop) : Prop :=
  match mx with
  | none => bnd hi s.size s.size fun h => bnd lo 0 h fun j => K (.string (s.extract j h))
  | some _ => False

def aslice (P : Program) (H : Heap) (t : TypeId) (x : Value) (lo hi mx : Option Value) (K : Value → Prop) : Prop :=
  match x with
  | .slice a l c => asliceS P H t a l c lo hi mx K
  | .string s => (match P.underlying t with | some .string => astrSlice s lo hi mx K | _ => False)
  | _ => False

def acvR (P : Program) (s d : TypeId) (x : Value) (H : Heap) (K : Value → Prop) : Prop :=
  match P.underlying s, P.underlying d with
  | some (.slice e), some .string => (match x, P.underlying e with
    | .slice a l c, some (.int .u8) => sliceC H 1 (.slice a l c) fun _ xs => (match bytesL xs with
      | some bs => K (.string ⟨bs.toArray⟩)
      | none => False)
    | _, _ => False)
  | _, _ => False

def alenR (x : Value) (H : Heap) (K : Value → Prop) : Prop :=
  match x with
  | .map none => K (.int .i64 0)
  | .map (some b) => (match H.get b with | some (.map m) => K (.int .i64 m.length) | _ => False)
  | _ => False

def lopR (P : Program) (e : Env) (o : Oper) (H : Heap) (K : Value → Prop) : Prop :=
  match o.op with
  | .load t x => ev1 e x fun v => aload P t v H K
  | .slice t x lo hi mx => ev1 e x fun v => evO e lo fun lo => evO e hi fun hi => evO e mx fun mx => aslice P H t v lo hi mx K
  | .lookup t x k ok => ev1 e x fun v => ev1 e k fun u => alookup P t v u ok H fun r => shp P o.type r K
  | .convert s d x => ev1 e x fun v => acvR P s d v H K
  | .call c => (match c.callee, c.args.toList, c.argTypes.toList with
    | .builtin .len, [x], [t] => (match P.underlying t with | some (.map _ _) => ev1 e x fun v => alenR v H K | _ => False)
    | _, _, _ => False)
  | _ => False

/-- The blocks that a value leads to at once. -/
def refOf : Value → List Nat
  | .pointer (some a) => [a.block]
  | .slice (some a) _ _ => [a.block]
  | .map (some r) => [r]
  | _ => []

/-- The operand through which an operation of kind r reads. -/
def rdOperand (o : Oper) : Option Operand :=
  match o.op with
  | .load _ x => some x
  | .lookup _ x _ _ => some x
  | .convert _ _ x => some x
  | .call c => c.args.toList.head?
  | _ => none

def rdReal (o : Oper) (a : Act) : List Nat := match rdOperand o with | some x => refOf (a.eval x) | none => []
def rdAbs (o : Oper) (e : Env) : List Nat := match rdOperand o with | some x => (match aeval e x with | some v => refOf v | none => []) | none => []

theorem lopR_sound {P : Program} {e : Env} {o : Oper} {H : Heap} {K : Value → Prop} {φ : Phi} {a : Act} {w : World} (h : lopR P e o H K) (ha : ARel φ e a) (hw : HR φ H w) :
    ∃ u u', (∀ w2 : World, (∀ r ∈ rdReal o a, w2.heap[r]? = w.heap[r]?) → (execOp a.eval o).run P w2 = .ok (.value u') w2) ∧ K u ∧ VR φ u u' := by
  unfold lopR at h
  obtain ⟨dst, op, type, pos, after, guard⟩ := o
  split at h <;> (try rename_i heq; simp only at heq; subst heq)
  case h_1 t x =>
    obtain ⟨v, k, r⟩ := ev1_sound h ha
    obtain ⟨z, z', g1, g2, g3⟩ := aload_sound k r hw
    refine ⟨z, z', fun w2 h2 => run_v (g1 w2 fun ad had => h2 _ ?_), g2, g3⟩
    simp [rdReal, rdOperand, had, refOf]
  case h_2 t x lo hi mx =>
    obtain ⟨v, k, r⟩ := ev1_sound h ha
    obtain ⟨lo', k, r2, r3⟩ := evO_sound k ha
    obtain ⟨hi', k, r4, r5⟩ := evO_sound k ha
    obtain ⟨mx', k, r6, r7⟩ := evO_sound k ha
    unfold aslice at k
    split at k
    · obtain ⟨z, z', g1, g2, g3⟩ := asliceS_sound k r hw r2 r3 r4 r5 r6 r7
      exact ⟨z, z', fun w2 _ => run_v (g1 w2), g2, g3⟩
    · rename_i s _ _ _
      split at k
      · rename_i hu
        generalize hx : a.eval x = x' at r
        cases r
        unfold astrSlice at k
        split at k
        · have hm0 := r7 rfl
          have fin : ∀ j hh lo'' hi'', lo.map a.eval = lo'' → hi.map a.eval = hi'' → (∀ w, (Instr.sliceBounds false s.size s.size lo'' hi'' none).run P w = .ok (j, hh, s.size) w) →
              ∀ w, (execOp a.eval ⟨dst, .slice t x lo hi mx, type, pos, after, guard⟩).run P w = .ok (.value (.string (s.extract j hh))) w := by
            intro j hh lo'' hi'' e1 e2 hr w
            refine run_v ?_
            rw [e1, e2, hm0, hx]
            unfold Instr.sliceAt Instr.slice
            simp [run_underlying_some hu, hr]
          rcases bnd_sound (P := P) (most' := s.size) k r4 r5 (Nat.le_refl _) with ⟨rfl, e2, hk⟩ | ⟨kk, n, rfl, e2, n1, n2, hk, hrun⟩
          · rcases bnd_sound (P := P) (most' := s.size) hk r2 r3 (Nat.le_refl _) with ⟨rfl, e3, hk⟩ | ⟨k2, n2, rfl, e3, m1, m2, hk, hrun2⟩
            · exact ⟨_, _, fun w2 _ => fin 0 s.size _ _ e3 e2 (fun _ => rfl) w2, hk, .string _⟩
            · refine ⟨_, _, fun w2 _ => fin n2.toNat s.size _ _ e3 e2 (fun w => ?_) w2, hk, .string _⟩
              unfold Instr.sliceBounds
              simp [hrun2]
          · rcases bnd_sound (P := P) (most' := n.toNat) hk r2 r3 (Nat.le_refl _) with ⟨rfl, e3, hk⟩ | ⟨k2, n2', rfl, e3, m1, m2, hk, hrun2⟩
            · refine ⟨_, _, fun w2 _ => fin 0 n.toNat _ _ e3 e2 (fun w => ?_) w2, hk, .string _⟩
              unfold Instr.sliceBounds
              simp [hrun]
            · refine ⟨_, _, fun w2 _ => fin n2'.toNat n.toNat _ _ e3 e2 (fun w => ?_) w2, hk, .string _⟩
              unfold Instr.sliceBounds
              simp [hrun, hrun2]
        · exact k.elim
      · exact k.elim
    · exact k.elim
  case h_3 t x kk ok =>
    obtain ⟨v, k, r⟩ := ev1_sound h ha
    obtain ⟨u, k, r2⟩ := ev1_sound k ha
    obtain ⟨z, z', g1, g2, g3⟩ := alookup_sound k r r2 hw
    refine ⟨z, z', fun w2 h2 => run_v (g1 w2 fun rr hrr => h2 _ ?_), shp_elim g2, g3⟩
    simp [rdReal, rdOperand, hrr, refOf]
  case h_4 s d x =>
    obtain ⟨v, k, r⟩ := ev1_sound h ha
    unfold acvR at k
    split at k
    · rename_i el hs hd
      split at k
      · rename_i al l c _ he
        obtain ⟨n, xs, xs', hK, hv, hl, hlen, hcs, hn, hst⟩ := sliceC_sound (P := P) k r hw
        obtain rfl := hn _ _ _ rfl
        split at hK
        · rename_i bs hb
          obtain ⟨ns, e1, e2⟩ := bytesL_spec hb hv
          subst e1; subst e2
          obtain ⟨a', c', hx'⟩ : ∃ a' c', a.eval x = .slice a' n c' := by
            generalize a.eval x = x' at r
            cases r <;> exact ⟨_, _, rfl⟩
          refine ⟨_, .string ⟨(ns.map fun n => UInt8.ofNat n.toNat).toArray⟩, fun w2 h2 => run_v ?_, hK, .string _⟩
          have hcs2 := hst w2 (fun ad l c hx => h2 _ (by simp [rdReal, rdOperand, hx, refOf]))
          rw [hx'] at hcs2 ⊢
          rw [run_convert_bytes_string w2 s d el a' n c' hs he hd]
          cases a' with
          | none =>
            simp only [Builtin.firstCells, Sem.run_pure] at hcs2
            injection hcs2 with hcs2
            have : ns = [] := by
              have := congrArg Array.size hcs2
              simp at this
              exact List.eq_nil_of_length_eq_zero this.symm
            subst this
            rfl
          | some ad =>
            have hld : (loadCells ad n).run P w2 = .ok (ns.map (Value.int .u8)).toArray w2 := by
              simpa [Builtin.firstCells] using hcs2
            rw [run_bytesToString w2 ad n c' ns hld, foldl_push_bytes]
            simp [ByteArray.empty, ByteArray.emptyWithCapacity]
            rfl
        · exact hK.elim
      · exact k.elim
    · exact k.elim
  case h_5 c =>
    split at h
    · rename_i x t hc hx ht
      split at h
      · rename_i kt et hu
        obtain ⟨v, k, r⟩ := ev1_sound h ha
        have ht := toArr_of_list ht
        generalize hv : a.eval x = v' at r
        unfold alenR at k
        split at k
        · cases r
          refine ⟨_, _, fun w2 _ => run_builtin hc ?_, k, .int _ _⟩
          have hx := toArr_of_list hx
          rw [hx, ht]
          simp [builtin, hv, Builtin.len_, run_underlying_some hu, goInt]
        · cases r
          rename_i b i hi
          split at k
          · rename_i m hm
            obtain ⟨es, clock, q1, q2⟩ := hw.map hm hi
            refine ⟨_, _, fun w2 h2 => run_builtin hc ?_, k, .int _ _⟩
            have q1' : w2.heap[i.rb]? = some (.map es clock) := by rw [h2 i.rb (by simp [rdReal, rdOperand, hx, hv, refOf])]; exact q1
            have hx := toArr_of_list hx
            rw [hx, ht]
            simp [builtin, hv, Builtin.len_, run_underlying_some hu, goInt, run_getObj q1' (by intros; simp), q2.len]
          · exact k.elim
        · exact k.elim
      · exact h.elim
    · exact h.elim
  case h_6 => exact h.elim

/-! ### Kind w -/

def aappend (P : Program) (sT xT : TypeId) (s x : Value) (H : Heap) (K : Value → Heap → Prop) : Prop :=
  match P.underlying sT, P.underlying xT with
  | some (.slice e), some (.slice _) | some (.slice e), some .string => (match elemO P e with
    | some (es, bytes, _) => sliceC H es x fun n xs => xs.all (·.oneCell') = true ∧ aapp H es bytes s n xs K
    | none => False)
  | some (.slice e), some (.int _) => (match elemO P e, x with
    | some (es, bytes, zc), .int _ m => 0 ≤ m ∧ m ≤ 2 ^ 47 ∧ m.toNat * bytes ≤ 2 ^ 48 ∧ (zrow zc m.toNat).all (·.oneCell') = true ∧ aapp H es bytes s m.toNat (zrow zc m.toNat) K
    | _, _ => False)
  | _, _ => False

def lopW (P : Program) (e : Env) (o : Oper) (H : Heap) (K : Value → Heap → Prop) : Prop :=
  match o.op with
  | .alloc t => (match zeroOf P t with
    | some z => anew z H K
    | none => False)
  | .box _ x => ev1 e x fun v => anew v H K
  | .buildSlice t n ps => (match avals (aeval e) ps.toList with
    | some l => abuildSlice P t n l H K
    | none => False)
  | .store t x y => ev1 e x fun v => ev1 e y fun u => astore P t v u H fun H' => K undef H'
  | .makeMap _ none => amakeMap H K
  | .makeSlice t l c => ev1 e l fun v => ev1 e c fun u => amakeSlice P t v u H K
  | .mapUpdate t m k x | .insert t m k x => ev1 e m fun v => ev1 e k fun u => ev1 e x fun z => amapUpdate P t v u z H fun H' => K undef H'
  | .convert s d x => ev1 e x fun v => aconvert P s d v H K
  | .call c => (match c.callee, c.args.toList, c.argTypes.toList with
    | .builtin .append, [x, y], [s, t] => ev1 e x fun v => ev1 e y fun u => aappend P s t v u H K
    | _, _, _ => False)
  | _ => False

/-- What the run of an operation of kind w comes to. -/
def WPost (φ : Phi) (H : Heap) (w : World) (K : Value → Heap → Prop) : Result Next → Prop
  | .ok (.value u') w' => ∃ u H' φ', K u H' ∧ VR φ' u u' ∧ HR φ' H' w' ∧ Ext φ H w φ' H' w'
  | .ok .skip w' => ∃ u H' φ', K u H' ∧ VR φ' u undef ∧ HR φ' H' w' ∧ Ext φ H w φ' H' w'
  | _ => False

theorem lopW_sound {P : Program} {e : Env} {o : Oper} {H : Heap} {K : Value → Heap → Prop} {φ : Phi} {a : Act} {w : World} (h : lopW P e o H K) (ha : ARel φ e a) (hw : HR φ H w) :
    WPost φ H w K ((execOp a.eval o).run P w) := by
  have hundef : ∀ φ, VR φ undef undef := fun φ => .tuple _ _ rfl fun j h => by simp at h
  unfold lopW at h
  obtain ⟨dst, op, type, pos, after, guard⟩ := o
  split at h <;> (try rename_i heq; simp only at heq; subst heq)
  case h_1 t =>
    split at h
    · rename_i z hz
      obtain ⟨z1, z2⟩ := run_zeroValue hz w
      obtain ⟨ad, w', g1, u, H', φ', g2⟩ := anew_sound (P := P) (t := t) h (VR.refl_cst z2) hw
      have : (Instr.alloc t true (.tuple #[])).run P w = .ok (.pointer (some ad)) w' := by simp [Instr.alloc, z1, g1]
      show WPost φ H w K ((do pure (Next.value (← Instr.alloc t true (.tuple #[])))).run P w)
      rw [run_v this]
      exact ⟨u, H', φ', g2⟩
    · exact h.elim
  case h_2 t x =>
    obtain ⟨v, k, r⟩ := ev1_sound h ha
    obtain ⟨ad, w', g1, u, H', φ', g2⟩ := anew_sound (P := P) (t := t) k r hw
    have : (Instr.box t (a.eval x)).run P w = .ok (.pointer (some ad)) w' := by simp [Instr.box, g1]
    show WPost φ H w K ((do pure (Next.value (← Instr.box t (a.eval x)))).run P w)
    rw [run_v this]
    exact ⟨u, H', φ', g2⟩
  case h_3 t n ps =>
    split at h
    · rename_i l hl
      obtain ⟨h1, h2⟩ := avals_sound ha hl
      obtain ⟨u', w', g1, g2⟩ := abuildSlice_sound (φ := φ) (parts' := ps.map fun (i, x) => (i, a.eval x)) h (by simpa using h1) (by simpa using h2) hw
      show WPost φ H w K ((do pure (Next.value (← Instr.buildSlice t n (ps.map fun (i, x) => (i, a.eval x))))).run P w)
      rw [run_v g1]
      exact g2
    · exact h.elim
  case h_4 t x y =>
    obtain ⟨v, k, r⟩ := ev1_sound h ha
    obtain ⟨u, k, r2⟩ := ev1_sound k ha
    obtain ⟨w', g1, H', g2, g3, g4⟩ := astore_sound k r r2 hw
    show WPost φ H w K ((do Instr.storeAt t (a.eval x) (a.eval y); pure Next.skip).run P w)
    rw [run_u g1]
    exact ⟨_, H', φ, g2, hundef _, g3, g4⟩
  case h_5 t =>
    obtain ⟨u', w', g1, g2⟩ := amakeMap_sound (P := P) (t := t) h hw
    show WPost φ H w K ((do pure (Next.value (← Instr.makeMap t none))).run P w)
    rw [run_v g1]
    exact g2
  case h_6 t l c =>
    obtain ⟨v, k, r⟩ := ev1_sound h ha
    obtain ⟨u, k, r2⟩ := ev1_sound k ha
    obtain ⟨u', w', g1, g2⟩ := amakeSlice_sound k r r2 hw
    show WPost φ H w K ((do pure (Next.value (← Instr.makeSlice t (a.eval l) (a.eval c)))).run P w)
    rw [run_v g1]
    exact g2
  case h_7 t m kk x =>
    obtain ⟨v, k, r⟩ := ev1_sound h ha
    obtain ⟨u, k, r2⟩ := ev1_sound k ha
    obtain ⟨z, k, r3⟩ := ev1_sound k ha
    obtain ⟨w', g1, H', g2, g3, g4⟩ := amapUpdate_sound k r r2 r3 hw
    show WPost φ H w K ((do Instr.mapUpdate t (a.eval m) (a.eval kk) (a.eval x); pure Next.skip).run P w)
    rw [run_u g1]
    exact ⟨_, H', φ, g2, hundef _, g3, g4⟩
  case h_8 t m kk x =>
    obtain ⟨v, k, r⟩ := ev1_sound h ha
    obtain ⟨u, k, r2⟩ := ev1_sound k ha
    obtain ⟨z, k, r3⟩ := ev1_sound k ha
    obtain ⟨w', g1, H', g2, g3, g4⟩ := amapUpdate_sound k r r2 r3 hw
    show WPost φ H w K ((do Instr.mapUpdate t (a.eval m) (a.eval kk) (a.eval x); pure Next.skip).run P w)
    rw [run_u g1]
    exact ⟨_, H', φ, g2, hundef _, g3, g4⟩
  case h_9 s d x =>
    obtain ⟨v, k, r⟩ := ev1_sound h ha
    obtain ⟨u', w', g1, g2⟩ := aconvert_sound k r hw
    show WPost φ H w K ((do pure (Next.value (← convert s d (a.eval x)))).run P w)
    rw [run_v g1]
    exact g2
  case h_10 c =>
    split at h
    · rename_i x y s t hc hx ht
      obtain ⟨v, k, r⟩ := ev1_sound h ha
      obtain ⟨u, k, r2⟩ := ev1_sound k ha
      have hx := toArr_of_list hx
      have ht := toArr_of_list ht
      have key : ∀ el es bytes zc, P.underlying s = some (.slice el) → sliceLike P t → elemO P el = some (es, bytes, zc) →
          (sliceC H es u fun n xs => xs.all (·.oneCell') = true ∧ aapp H es bytes v n xs K) → WPost φ H w K ((execOp a.eval ⟨dst, .call c, type, pos, after, guard⟩).run P w) := by
        intro el es bytes zc hu hsl hE hk
        obtain ⟨n, xs, xs', ⟨hone, hK⟩, hv, hl, hlen, hcs, hn, hst⟩ := sliceC_sound (P := P) hk r2 hw
        obtain ⟨u', w', g1, g2⟩ := aapp_sound (rest := type) hK hu hE r hw (fun i0 z _ _ _ hes _ _ w1 hw1 => ⟨xs', .inl ⟨hsl, hlen, by rw [hes]; exact hst w1 (fun _ _ _ _ => by rw [hw1])⟩, hv⟩) hl hone
        have : (execOp a.eval ⟨dst, .call c, type, pos, after, guard⟩).run P w = .ok (.value u') w' := by
          refine run_builtin hc ?_
          rw [hx, ht]
          simp [builtin, g1]
        rw [this]
        exact g2
      unfold aappend at k
      split at k
      · rename_i el e2 hu hxu
        split at k
        · rename_i es bytes zc hE
          exact key el es bytes _ hu (.inl ⟨_, hxu⟩) hE k
        · exact k.elim
      · rename_i el hu hxu
        split at k
        · rename_i es bytes zc hE
          exact key el es bytes _ hu (.inr hxu) hE k
        · exact k.elim
      · rename_i el ik hu hxu
        split at k
        · rename_i es bytes zc ik2 m hE
          obtain ⟨m0, m47, mb, hone, hK⟩ := k
          obtain ⟨m, rfl⟩ := Int.eq_ofNat_of_zero_le m0
          rw [Int.toNat_natCast] at mb hone hK
          generalize hy : a.eval y = y' at r2
          cases r2
          obtain ⟨_, _, _, e4, e5⟩ := elemO_spec hE φ w
          obtain ⟨u', w', g1, g2⟩ := aapp_sound (rest := type) (x' := .int ik2 (m : Int)) hK hu hE r hw (fun i0 z hi hz hsz hes hby hzc w1 hw1 => ⟨zrow zc m, .inr ⟨ik, ik2, hxu, rfl, wrap_i64 (by omega) (by omega), by rw [hby]; exact mb, hsz, by rw [zeroCells_eq, hzc]⟩, e5.zrow _⟩) (by rw [zrow_length, e4]) hone
          have : (execOp a.eval ⟨dst, .call c, type, pos, after, guard⟩).run P w = .ok (.value u') w' := by
            refine run_builtin hc ?_
            rw [hx, ht]
            simp [builtin, hy, g1]
          rw [this]
          exact g2
        · exact k.elim
      · exact k.elim
    · exact h.elim
  case h_11 => exact h.elim

/-! ### A block set aside, a round -/

theorem HR.aside {φ : Phi} {H : Heap} {w : World} (h : HR φ H w) (b : Nat) : HR φ (H.drop b) w := by
  refine ⟨h.zero, h.pos, h.fresh, fun x k ex => ?_, fun x y k1 k2 i1 i2 ex ey => ?_⟩
  · rw [drop_get] at ex
    split at ex
    · cases ex
    · exact h.dom x k ex
  · rw [drop_get] at ex ey
    split at ex
    · cases ex
    · split at ey
      · cases ey
      · exact h.sep x y k1 k2 i1 i2 ex ey

theorem Heap.drop_set (H : Heap) (b : Nat) (k : Blk) : (H.set b k).drop b = H.drop b := by
  simp only [Heap.set, Heap.drop, Heap.mk.injEq, true_and]
  funext x
  by_cases h : x = b <;> simp [h]

/-- A world in which one object is another one. -/
def pokeW (w : World) (r : Nat) (o : Obj) : World := { w with heap := w.heap.setIfInBounds r o }

theorem poke_ne {w : World} {r s : Nat} {o : Obj} (h : r ≠ s) : (pokeW w r o).heap[s]? = w.heap[s]? := by simp [pokeW, Array.getElem?_setIfInBounds_ne h]
theorem poke_eq {w : World} {r : Nat} {o : Obj} (h : r < w.heap.size) : (pokeW w r o).heap[r]? = some o := by simp [pokeW, h]
theorem poke_size {w : World} {r : Nat} {o : Obj} : (pokeW w r o).heap.size = w.heap.size := by simp [pokeW]

/-- What is set aside may be turned. -/
theorem HR.poke {φ : Phi} {H : Heap} {w : World} {l : Nat} {k : Blk} {i : BI} (h : HR φ H w) (e : H.get l = some k) (hk : k.rw = true) (hi : φ l = some i) (o : Obj) : HR φ (H.drop l) (pokeW w i.rb o) := by
  have h' := h.aside l
  refine ⟨h'.zero, h'.pos, h'.fresh, fun x kx ex => ?_, h'.sep⟩
  have ex0 := ex
  rw [drop_get] at ex
  split at ex
  · cases ex
  · rename_i hne
    obtain ⟨j, hj, r⟩ := h'.dom x kx ex0
    exact ⟨j, hj, r.mono (Phi.le_refl _) (poke_ne (h.sep l x k kx i j e ex hi hj (fun q => hne q.symm) hk))⟩

/-- **What was set aside is there again**, as another one: a run that knew nothing of it has left it. -/
theorem HR.again2 {φ φ2 : Phi} {H H2 : Heap} {w w' w3 w4 : World} {l : Nat} {k k' : Blk} {i : BI} (h : HR φ H w) (e : H.get l = some k) (hk : k.rw = true) (hi : φ l = some i)
    (hp : w' = w ∨ ∃ o, w' = pokeW w i.rb o) (h2 : HR φ2 H2 w3) (hx : Ext φ (H.drop l) w' φ2 H2 w3) (hp4 : w4 = w3 ∨ ∃ o, w4 = pokeW w3 i.rb o) (hk' : k'.rw = true) (hblk : BlkR φ2 w4 i k') :
    HR φ2 (H2.set l k') w4 ∧ Ext φ H w φ2 (H2.set l k') w4 := by
  have hlt : i.rb < w.heap.size := h.lt e hi
  have hsz : w'.heap.size = w.heap.size := by rcases hp with rfl | ⟨o, rfl⟩ <;> simp [poke_size]
  have hsz4 : w4.heap.size = w3.heap.size := by rcases hp4 with rfl | ⟨o, rfl⟩ <;> simp [poke_size]
  have hos : w'.os = w.os ∧ w'.output = w.output := by rcases hp with rfl | ⟨o, rfl⟩ <;> exact ⟨rfl, rfl⟩
  have hos4 : w4.os = w3.os ∧ w4.output = w3.output := by rcases hp4 with rfl | ⟨o, rfl⟩ <;> exact ⟨rfl, rfl⟩
  have hne' : ∀ r, r ≠ i.rb → w'.heap[r]? = w.heap[r]? := fun r hr => by rcases hp with rfl | ⟨o, rfl⟩ <;> first | rfl | exact poke_ne hr.symm
  have hne4 : ∀ r, r ≠ i.rb → w4.heap[r]? = w3.heap[r]? := fun r hr => by rcases hp4 with rfl | ⟨o, rfl⟩ <;> first | rfl | exact poke_ne hr.symm
  have hin : ∀ x kx, (H.drop l).get x = some kx → x ≠ l ∧ H.get x = some kx := by
    intro x kx ex
    rw [drop_get] at ex
    split at ex
    · cases ex
    · rename_i hne; exact ⟨hne, ex⟩
  have hi' : φ2 l = some i := hx.phi _ _ hi
  have apart : ∀ x kx ix, H2.get x = some kx → φ2 x = some ix → ix.rb ≠ i.rb := by
    intro x kx ix ex px heq
    rcases hx.live x kx ix ex px with h1 | ⟨b0, k0, i0, g1, _, g3, g4⟩
    · omega
    · obtain ⟨hne, g1⟩ := hin b0 k0 g1
      exact h.sep l b0 k k0 i i0 e g1 hi g3 (fun q => hne q.symm) hk (by rw [g4, heq])
  constructor
  · refine ⟨h2.zero, h2.pos, h2.fresh, fun x kx ex => ?_, fun x y k1 k2 i1 i2 ex ey p1 p2 hne hrw => ?_⟩
    · rw [set_get] at ex
      by_cases hxb : x = l
      · rw [if_pos hxb] at ex
        obtain rfl := Option.some.inj ex
        exact ⟨i, hxb ▸ hi', hblk⟩
      · rw [if_neg hxb] at ex
        obtain ⟨j, hj, r⟩ := h2.dom x kx ex
        exact ⟨j, hj, r.mono (Phi.le_refl _) (hne4 _ (apart x kx j ex hj))⟩
    · rw [set_get] at ex ey
      by_cases hxb : x = l
      · subst hxb
        rw [hi'] at p1
        obtain rfl := Option.some.inj p1
        rw [if_neg (fun q => hne q.symm)] at ey
        exact fun q => apart y k2 i2 ey p2 q.symm
      · rw [if_neg hxb] at ex
        by_cases hyb : y = l
        · subst hyb
          rw [hi'] at p2
          obtain rfl := Option.some.inj p2
          exact apart x k1 i1 ex p1
        · rw [if_neg hyb] at ey
          exact h2.sep x y k1 k2 i1 i2 ex ey p1 p2 hne hrw
  · refine ⟨hx.phi, by rw [hsz4, ← hsz]; exact hx.size, fun r hr hn => ?_, fun x hxn => hx.back x hxn, fun x kx ix ex px => ?_, fun x es c ex => ?_, hx.next, hos4.1.trans (hx.os.trans hos.1), hos4.2.trans (hx.out.trans hos.2)⟩
    · have hri : r ≠ i.rb := fun q => hn l k i e hk hi q.symm
      rw [hne4 r hri, ← hne' r hri]
      exact hx.kept r (hsz ▸ hr) fun x kx ix ex hrw px => hn x kx ix (hin x kx ex).2 hrw px
    · rw [set_get] at ex
      by_cases hxb : x = l
      · subst hxb
        rw [hi'] at px
        obtain rfl := Option.some.inj px
        exact .inr ⟨x, k, i, e, fun _ => hk, hi, rfl⟩
      · rw [if_neg hxb] at ex
        rcases hx.live x kx ix ex px with h1 | ⟨b0, k0, i0, g1, g2, g3, g4⟩
        · exact .inl (hsz ▸ h1)
        · exact .inr ⟨b0, k0, i0, (hin b0 k0 g1).2, g2, g3, g4⟩
    · have hxb : x ≠ l := by
        rintro rfl
        rw [e] at ex
        obtain rfl := Option.some.inj ex
        cases hk
      rw [set_get, if_neg hxb]
      refine hx.ro x es c ?_
      rw [drop_get, if_neg hxb]
      exact ex

def eputs (e : Env) : List Nat → List Value → Env
  | t :: ts, v :: vs => eputs (e.put (some t) v) ts vs
  | _, _ => e

/-- What yield hands back when a round is over. -/
def yieldK (l n : Nat) (E : Tr Value) (ps : Array Tmp) (asg body : Code) (K : AEnd → Heap → Prop) : AExit → Env → Heap → Prop
  | .normal, _, H => K (.returned (.bool true)) (H.set l (.loop n E ps asg body none))
  | .ret, _, H => K (.returned (.bool false)) (H.set l (.loop n E ps asg body (some .ret)))
  | .exit id, _, H => K (.returned (.bool false)) (H.set l (.loop n E ps asg body (some (.exit id))))
  | .panic _, _, _ => False

def roundK (P : Program) (l : Nat) (body : Code) (K : AExit → Env → Heap → Prop) : AExit → Env → Heap → Prop
  | .normal, e, H => acode false P body K e (H.drop l)
  | _, _, _ => False

/-- One round of a range over a function: yield is called. -/
def ayield (P : Program) (l : Nat) (args : List Value) (H : Heap) (K : AEnd → Heap → Prop) : Prop :=
  match H.get l with
  | some (.loop n E ps asg body none) => args.length = ps.size ∧ (∀ t ∈ ps.toList, t < n) ∧ acode false P asg (roundK P l body (yieldK l n E ps asg body K)) (eputs ⟨n, E.get⟩ ps.toList args) (H.drop l)
  | _ => False

theorem ARel.puts {φ : Phi} {ds : List Deferred} : ∀ (ts : List Nat) (vs vs' : List Value) {e : Env} {tmps : Array Value}, ARel φ e { tmps := tmps, defers := ds } → (∀ t ∈ ts, t < e.n) → VRs φ vs vs' → ts.length = vs.length →
    ARel φ (eputs e ts vs) { tmps := (ts.zip vs').foldl (fun tmps (x : Nat × Value) => tmps.setIfInBounds x.1 x.2) tmps, defers := ds }
  | [], vs, vs', e, tmps, h, _, hv, hl => by
    cases vs with
    | nil => simpa [eputs] using h
    | cons v vs => simp at hl
  | t :: ts, vs, vs', e, tmps, h, ht, hv, hl => by
    cases vs with
    | nil => simp at hl
    | cons v vs =>
      obtain ⟨v', x', rfl, h1, h2⟩ := hv.inv_cons
      have := ARel.put (d := some t) h (fun s hs => by obtain rfl := Option.some.inj hs; exact ht t (by simp)) h1
      exact ARel.puts ts vs x' (e := e.put (some t) v) (tmps := tmps.setIfInBounds t v') this (fun s hs => ht s (by simp [hs])) h2 (by simpa using hl)

theorem VRs.len {φ : Phi} {x y : List Value} (h : VRs φ x y) : x.length = y.length := h.1

/-- The round, run. -/
theorem ayield_sound {P : Program} {l : Nat} {args : List Value} {args' : Array Value} {H : Heap} {K : AEnd → Heap → Prop} {φ : Phi} {w : World} {i : BI} (h : ayield P l args H K) (hi : φ l = some i) (hargs : VRs φ args args'.toList) (hw : HR φ H w)
    {F : Fence} (hF : WF F) {R : Ending → World → Prop} (hR : ∀ e e' H' φ' w', K e H' → ER φ' e e' → HR φ' H' w' → Ext φ H w φ' H' w' → R e' w') :
    ∃ f tmps asg body, (Instr.yield i.rb args').run P w = .ok (.round i.rb f tmps asg body) w ∧ RoundIn F 0 P i.rb f tmps asg body w R := by
  unfold ayield at h
  split at h
  case h_2 => exact h.elim
  rename_i n E ps asg body hl
  obtain ⟨hlen, hps, hcode⟩ := h
  obtain ⟨i', hi', fn, tmps, d, q1, q2, q3⟩ := hw.dom l _ hl
  obtain rfl : i = i' := by rw [hi] at hi'; exact Option.some.inj hi'
  simp only [Option.isNone_none, if_true] at q1
  have hsz : args'.size = ps.size := by rw [← hlen, hargs.1]; simp
  have hget : ∀ (w2 : World) (r : Loop), w2.heap[i.rb]? = some (.loop r) → (Instr.getLoop i.rb).run P w2 = .ok r w2 := fun w2 r hr => by
    unfold Instr.getLoop
    simp [run_getObj hr (by intros; simp)]
  refine ⟨fn, (ps.zip args').foldl (fun tmps (t, a) => tmps.setIfInBounds t a) tmps, asg, body, ?_, ?_⟩
  · unfold Instr.yield
    simp [hget w _ q1, hsz]
  · obtain ⟨ro, rfl⟩ := hF
    refine roundIn_of_wpIn trivial ?_
    have hF2 : WF (({ Fence.wide with round := ro } : Fence).inRound i.rb) := ⟨some i.rb, rfl⟩
    have hrel : ARel φ (eputs ⟨n, E.get⟩ ps.toList args) { tmps := (ps.zip args').foldl (fun tmps (t, a) => tmps.setIfInBounds t a) tmps, defers := [] } := by
      have := ARel.puts (φ := φ) (ds := []) ps.toList args args'.toList (e := ⟨n, E.get⟩) (tmps := tmps) ⟨q2, fun t v ht => q3 t v ht⟩ hps hargs (by simp [hlen])
      have hz : (ps.zip args').foldl (fun tmps (t, a) => tmps.setIfInBounds t a) tmps = (ps.toList.zip args'.toList).foldl (fun tmps (x : Nat × Value) => tmps.setIfInBounds x.1 x.2) tmps := by
        rw [← Array.foldl_toList, Array.toList_zip]
      rw [hz]
      exact this
    refine wpIn_mono (hcode _ hF2 (by simp) φ _ w hrel (hw.aside l)) ?_
    rintro ex' a1 w1 ⟨ex, e1, H1, φ1, k1, r1, r2, r4, r5, r6, r7⟩
    cases ex with
    | normal =>
      cases ex' <;> simp only [XR] at r1
      have hi1 : φ1 l = some i := r5.phi _ _ hi
      -- behind the assignment
      have hblk1 : BlkR φ1 w1 i (.loop n E ps asg body none) := by
        have hk : w1.heap[i.rb]? = w.heap[i.rb]? := by
          refine r5.kept i.rb (hw.lt hl hi) fun x kx ix ex hrw px heq => ?_
          have ex0 := ex
          rw [drop_get] at ex
          split at ex
          · cases ex
          · rename_i hne
            exact hw.sep l x _ kx i ix hl ex hi px (fun q => hne q.symm) rfl heq.symm
        exact BlkR.mono (w := w) r5.phi hk ⟨fn, tmps, d, q1, q2, q3⟩
      obtain ⟨s1, s2⟩ := hw.again2 hl rfl hi (.inl rfl) r4 r5 (.inl rfl) (k' := .loop n E ps asg body none) rfl hblk1
      obtain ⟨fn1, tmps1, d1, p1, p2, p3⟩ := hblk1
      simp only [Option.isNone_none, if_true] at p1
      have hlt1 : i.rb < w1.heap.size := (Array.getElem?_eq_some_iff.1 p1).1
      show ∃ w₂, _
      refine ⟨pokeW w1 i.rb (.loop { state := .busy, pending := none, fn := fn1, tmps := tmps1, params := ps, assign := asg, body := body, defers := d1 }), ?_, ?_⟩
      · unfold Instr.beginRound
        simp [hget w1 _ p1, run_setObj p1 (by intros; simp), pokeW]
      have hset1 : (H1.set l (.loop n E ps asg body none)).get l = some (.loop n E ps asg body none) := by rw [set_get, if_pos rfl]
      have hpk := s1.poke hset1 rfl hi1 (.loop { state := .busy, pending := none, fn := fn1, tmps := tmps1, params := ps, assign := asg, body := body, defers := d1 })
      rw [Heap.drop_set] at hpk
      refine wpIn_mono (k1 _ hF2 (by simp) φ1 a1 _ r2 hpk) ?_
      rintro ex2' a2 w3 ⟨ex2, e2, H2, φ2, k2, t1, t2, t4, t5, t6, t7⟩
      have hbusy : w3.heap[i.rb]? = some (.loop { state := .busy, pending := none, fn := fn1, tmps := tmps1, params := ps, assign := asg, body := body, defers := d1 }) := by
        rw [t5.kept i.rb (by rw [poke_size]; exact hlt1) fun x kx ix ex hrw px heq => ?_]
        · exact poke_eq hlt1
        · have ex0 := ex
          rw [drop_get] at ex
          split at ex
          · cases ex
          · rename_i hne
            refine s1.sep l x _ kx i ix hset1 (by rw [set_get, if_neg hne]; exact ex) hi1 px (fun q => hne q.symm) rfl heq.symm
      have hlt3 : i.rb < w3.heap.size := (Array.getElem?_eq_some_iff.1 hbusy).1
      have fin : ∀ jump : Option Code, K (.returned (.bool jump.isNone)) (H2.set l (.loop n E ps asg body jump)) →
          ∃ v w', (Instr.endRound i.rb jump).run P w3 = .ok v w' ∧ R (.returned v) w' := by
        intro jump hK
        refine ⟨.bool jump.isNone, pokeW w3 i.rb (.loop { state := if jump.isNone then .ready else .done, pending := jump, fn := fn1, tmps := tmps1, params := ps, assign := asg, body := body, defers := d1 }), ?_, ?_⟩
        · unfold Instr.endRound
          simp [hget w3 _ hbusy, run_setObj hbusy (by intros; simp), pokeW]
        · have hblk4 : BlkR φ2 (pokeW w3 i.rb (.loop { state := if jump.isNone then .ready else .done, pending := jump, fn := fn1, tmps := tmps1, params := ps, assign := asg, body := body, defers := d1 })) i (.loop n E ps asg body jump) :=
            ⟨fn1, tmps1, d1, poke_eq hlt3, p2, fun t v ht => ⟨(p3 t v ht).1, (p3 t v ht).2.mono t5.phi⟩⟩
          rw [← Heap.drop_set H1 l (.loop n E ps asg body none)] at t5
          obtain ⟨u1, u2⟩ := s1.again2 hset1 rfl hi1 (.inr ⟨_, rfl⟩) t4 t5 (.inr ⟨_, rfl⟩) (k' := .loop n E ps asg body jump) rfl hblk4
          exact hR _ _ _ φ2 _ hK (.bool _) u1 (s2.trans u2)
      cases ex2 with
      | normal => cases ex2' <;> simp only [XR] at t1; exact fin none k2
      | ret => cases ex2' <;> simp only [XR] at t1; exact fin (some .ret) k2
      | exit id =>
        cases ex2' <;> simp only [XR] at t1
        subst t1
        exact fin (some (.exit id)) k2
      | panic ch => exact k2.elim
    | exit id => exact k1.elim
    | ret => exact k1.elim
    | panic ch => exact k1.elim

/-! ### Calls, panics; one operation -/

/-- A function that has a body, and may be entered as it is. -/
def callOK (P : Program) (g : FuncId) : Bool := match P.funcs[g]? with
  | some fn => fn.body.isSome && !(fn.name == "runtime.NumGoroutine")
  | none => false

def acallV (P : Program) (t : TypeId) (f : Value) (args : List Value) (H : Heap) (K : Value → Heap → Prop) (Kp : List PanicEntry → Heap → Prop) : Prop :=
  match f with
  | .func (.func g) x y => (match callOK P g with
    | true => acall P g (x.toList ++ args ++ y.toList) H fun en H' => (match en with
      | .returned v => shp P t v fun u => K u H'
      | .panicked ch => Kp ch H')
    | false => False)
  | .func (.yield l) x y => x = #[] ∧ y = #[] ∧ ayield P l args H fun en H' => (match en with
      | .returned v => K v H'
      | .panicked _ => False)
  | _ => False

def apanic (v : Value) (H : Heap) (Kp : List PanicEntry → Heap → Prop) : Prop :=
  match v with
  | .iface t u => Kp [{ v := .iface t u, recovered := false }] H
  | _ => False

def lop (P : Program) (e : Env) (o : Oper) (H : Heap) (K : Value → Heap → Prop) (Kp : List PanicEntry → Heap → Prop) : Prop :=
  match cls P o with
  | .a => lopA P e o fun v => K v H
  | .r => lopR P e o H fun v => K v H
  | .w => lopW P e o H K
  | .c => (match o.op with
    | .call c => (match c.callee with
      | .value f => ev1 e f fun fv => evL e c.args.toList fun vs => acallV P o.type fv vs H K Kp
      | _ => False)
    | _ => False)
  | .p => (match o.op with
    | .panic x => ev1 e x fun v => apanic v H Kp
    | _ => False)
  | .x => False

/-- One operation, as the walk through a region wants it. -/
theorem lop_sound {P : Program} {e : Env} {o : Oper} {H : Heap} {K : Value → Heap → Prop} {Kp : List PanicEntry → Heap → Prop} {φ : Phi} {a : Act} {w : World}
    (h : lop P e o H K Kp) (ha : ARel φ e a) (hw : HR φ H w) {next : Act → World → Prop} {Q : Exit → Act → World → Prop}
    (hn : ∀ v v' H' φ' w', K v H' → VR φ' v v' → HR φ' H' w' → Ext φ H w φ' H' w' → next (a.put o.dst v') w')
    (hp : ∀ ch ch' H' φ' w', Kp ch H' → CR φ' ch ch' → HR φ' H' w' → Ext φ H w φ' H' w' → Q (.panic ch') a w') {F : Fence} (hF : WF F) : o.wpIn F 0 P a w next Q := by
  refine ⟨fun f _ => hF.fn f, ?_⟩
  have hnd : ∀ c, o.op ≠ .defer c := by
    intro c hc
    unfold lop cls at h
    rw [hc] at h
    exact h
  rw [Oper.semAt_eq _ _ _ hnd]
  unfold lop at h
  split at h
  · obtain ⟨u, u', g1, g2, g3⟩ := lopA_sound h ha
    rw [g1]
    exact hn u u' H φ w g2 g3 hw (Ext.refl _ _ _)
  · obtain ⟨u, u', g1, g2, g3⟩ := lopR_sound h ha hw
    rw [g1 w fun _ _ => rfl]
    exact hn u u' H φ w g2 g3 hw (Ext.refl _ _ _)
  · have := lopW_sound h ha hw
    generalize (execOp a.eval o).run P w = r at this
    unfold WPost at this
    split at this
    · obtain ⟨u, H', φ', g1, g2, g3, g4⟩ := this
      exact hn u _ H' φ' _ g1 g2 g3 g4
    · obtain ⟨u, H', φ', g1, g2, g3, g4⟩ := this
      exact hn u _ H' φ' _ g1 g2 g3 g4
    · exact this.elim
  · obtain ⟨dst, op, type, pos, after, guard⟩ := o
    split at h
    · rename_i c heq
      simp only at heq
      subst heq
      split at h
      · rename_i f hc
        obtain ⟨fv, k, r⟩ := ev1_sound h ha
        obtain ⟨vs, k, r2⟩ := evL_sound (K := fun vs => acallV P type fv vs H K Kp) ha k
        unfold acallV at k
        split at k
        · rename_i g x y hh
          split at k
          · rename_i hok
            generalize hf : a.eval f = f' at r
            cases r with
            | func _ _ x' _ y' hx hy ex ey =>
              have hx2 := VRs.of_arr hx ex
              have hy2 := VRs.of_arr hy ey
              unfold callOK at hok
              split at hok
              · rename_i fn hfn
                simp only [Bool.and_eq_true, Bool.not_eq_true'] at hok
                obtain ⟨hb, hnm⟩ := hok
                have hrun : (execOp a.eval ⟨dst, .call c, type, pos, after, guard⟩).run P w = .ok (.enter g (x' ++ c.args.map a.eval ++ y')) w := by
                  show (do let d ← resolve a.eval c type; invoke d.target d.args).run P w = _
                  unfold resolve
                  rw [hc]
                  simp only [Sem.run_bind, hf, Deferred.ofValue, Sem.run_pure, Result.andThen_ok, invoke, callFunc, run_program, hfn, hnm, Bool.false_eq_true, if_false]
                  have : fn.body.isNone = false := by cases hbb : fn.body <;> simp_all
                  simp [this]
                rw [hrun]
                have hargs : VRs φ (x.toList ++ vs ++ y.toList) (x' ++ c.args.map a.eval ++ y').toList := by
                  have := (hx2.append r2).append hy2
                  simpa using this
                have hcall := k φ _ w hargs hw
                rw [Array.toArray_toList] at hcall
                refine ⟨fun hd => absurd hd hF.depth, hF.calls.2 ?_⟩
                refine hcall.mono ?_
                rintro e' w' ⟨en, H', φ', kk, er, hr', hx'⟩
                cases en with
                | returned v =>
                  cases e' <;> simp only [ER] at er
                  exact hn v _ H' φ' w' (shp_elim kk) er hr' hx'
                | panicked ch =>
                  cases e' <;> simp only [ER] at er
                  exact hp ch _ H' φ' w' kk er hr' hx'
              · cases hok
          · exact k.elim
        · rename_i l x y
          obtain ⟨rfl, rfl, k⟩ := k
          generalize hf : a.eval f = f' at r
          cases r with
          | yield _ i hi =>
            have hargs : VRs φ vs (c.args.map a.eval).toList := by simpa using r2
            obtain ⟨fn, tmps, asg, body, hy, hround⟩ := ayield_sound (R := fun
              | .returned v, w'' => next (({ dst, op := .call c, type, pos, after, guard } : Oper).dst |> fun d => a.put d v) w''
              | .panicked chain, w'' => Q (.panic chain) a w''
              | .outgrown, _ => LetsOut Q) k hi hargs hw hF fun e e' H' φ' w' kk er hr' hx' => by
                cases e with
                | returned v =>
                  cases e' <;> simp only [ER] at er
                  exact hn v _ H' φ' w' kk er hr' hx'
                | panicked ch => exact kk.elim
            have hrun : (execOp a.eval ⟨dst, .call c, type, pos, after, guard⟩).run P w = .ok (.round i.rb fn tmps asg body) w := by
              show (do let d ← resolve a.eval c type; invoke d.target d.args).run P w = _
              unfold resolve
              rw [hc]
              simp only [Sem.run_bind, hf, Deferred.ofValue, Sem.run_pure, Result.andThen_ok, invoke]
              simpa using hy
            rw [hrun, Oper.uponIn_round]
            exact ⟨fun hd => absurd hd hF.depth, hround⟩
        · exact k.elim
      · exact h.elim
    · exact h.elim
  · obtain ⟨dst, op, type, pos, after, guard⟩ := o
    split at h
    · rename_i x heq
      simp only at heq
      subst heq
      obtain ⟨v, k, r⟩ := ev1_sound h ha
      unfold apanic at k
      split at k
      · rename_i t u
        generalize hx : a.eval x = x' at r
        cases r with
        | iface _ _ u' hu =>
          have hrun : (execOp a.eval ⟨dst, .panic x, type, pos, after, guard⟩).run P w = .halt (.panic (.iface t u')) w := by
            simp [execOp, hx, Instr.panic]
          rw [hrun]
          refine hp [{ v := .iface t u, recovered := false }] [{ v := .iface t u', recovered := false }] H φ w k ⟨rfl, fun j p hj => ?_⟩ hw (Ext.refl _ _ _)
          cases j with
          | zero => simp at hj; subst hj; exact ⟨{ v := .iface t u', recovered := false }, by simp, .iface _ _ _ hu, rfl, rfl⟩
          | succ j => simp at hj
      · exact k.elim
    · exact h.elim
  · exact h.elim

end Go.Lift

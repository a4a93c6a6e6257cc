/-
  times: append to a slice that is full; records' May.
-/
import Derived.Test.YtmjbgfflbeibnaaK22
import Derived.Test.YtmjbgfflbeibnaaC1
import Derived.Test.YtmjbgfflbeibnaaKE
namespace Go.Proofs.Ytmjbgfflbeibnaa
set_option linter.unusedVariables false
set_option linter.unusedSimpArgs false
/-- append of something to a slice that is full: into new memory. -/
theorem app_full {n k : Nat} {S O : Nat → Prop} {h : H} {E : TypeId} {bytes cap0 : Nat} {a0 : Option Addr} {z : Array Value} {x : Value} {rows new : List (List Value)} {V : Value → H → Prop} (hs : SlK k S h (.slice a0 n cap0) rows) (hn : rows.length = n) (hc0 : cap0 < rows.length + new.length) (hO : ∀ b, h b = none → O b)
    (hnr : Rect k new) (hx : srcLen x = some new.length) (hc : srcCells h k new.length x = some (flat new).toArray) (hcell : (flat new).all isCell = true) (hz : z.size = k) (hlen : 2 * ((rows.length + new.length) * bytes) ≤ 281474976710656) (hlen' : rows.length + new.length ≤ 9223372036854775807)
    (hk : ∀ v h', OwK k O h' E v (rows ++ new) → Ext h h' → (∀ y, isAt v y → h y = none) → V v h') : appM E k bytes z (.slice a0 n cap0) x h V := by
  subst hn
  have hr := hs.1
  have hnl := hnr.flat
  have hrl := hr.flat
  have hrn : Rect k (rows ++ new) := hr.append hnr
  have grow : ∀ cap : Nat, cap < rows.length + new.length → ∀ c, rows.length + new.length ≤ c → ∀ b, h b = none →
      V (.slice (some ⟨b, 0, none⟩) (rows.length + new.length) c) (hupd h b (.cells ((flat rows).toArray ++ (flat new).toArray ++ Builtin.zeroCells z (c - (rows.length + new.length))) E)) := by
    intro cap hcap c hcl b hb
    refine hk _ _ ⟨hrn, .inr ⟨b, 0, c, _, (0, 0), by simp, hupd_same _ _ _, ?_, by simp; omega, ?_, hO b hb, .inl rfl⟩⟩ (Ext.new hb _) (by rintro y ⟨_, _, _, he⟩; simp only [Value.slice.injEq, Option.some.injEq, Addr.mk.injEq] at he; obtain ⟨⟨rfl, _⟩, _⟩ := he; exact hb)
    · have : (rows.length + new.length) * k + (c - (rows.length + new.length)) * k = c * k := by rw [← Nat.add_mul]; congr 1; omega
      have e2 : (rows.length + new.length) * k = rows.length * k + new.length * k := Nat.add_mul _ _ _
      simp [Builtin.zeroCells, hz, hrl, hnl]; omega
    · rw [flat_append, show (flat rows).toArray ++ (flat new).toArray = (flat rows ++ flat new).toArray by simp]
      exact at_arr _ _
  have hfit : ∀ cap, cap < rows.length + new.length → Builtin.nextslicecap (rows.length + new.length) cap * bytes ≤ 281474976710656 := by
    intro cap hcap
    have h1 := nextslicecap_le hcap
    have h2 : Builtin.nextslicecap (rows.length + new.length) cap * bytes ≤ (2 * (rows.length + new.length)) * bytes := Nat.mul_le_mul_right _ h1
    have h3 : (2 * (rows.length + new.length)) * bytes = 2 * ((rows.length + new.length) * bytes) := Nat.mul_assoc _ _ _
    omega
  have hold : srcCells h k rows.length (.slice a0 rows.length cap0) = some (flat rows).toArray := by
    have := (hs.src).2 rows.length (Nat.le_refl _)
    rwa [List.take_length] at this
  unfold appM
  simp only [hx]
  rw [if_neg (by omega)]
  refine ⟨⟨hlen', hfit cap0 hc0⟩, ?_⟩
  rw [hold, hc]
  intro c' hcl b' hb
  exact grow cap0 hc0 c' hcl b' hb
/-- 's[:u:u]' -/
theorem slc_to {h : H} {K : Value → H → Prop} {k : Nat} {a : Option Addr} {n c : Nat} {hi mx : Int} (u : Nat) (hu : hi = u) (hm : mx = u) (h1 : u ≤ c) (hk : K (.slice a u u) h) : opt (slcV k a n c true 0 hi mx) h K := by
  subst hu hm
  rw [slcV_eq, chk_pos ⟨by omega, by omega, by omega, by omega, .inl rfl⟩]
  have : (if (u : Int) = 0 then a else Option.map (fun x => x.add ((0 : Int).toNat * k)) a) = a := by
    split
    · rfl
    · cases a <;> simp [Addr.add]
  rw [this]
  rw [show (u : Int).toNat - (0 : Int).toNat = u by simp]
  exact hk
theorem SlK.full {k : Nat} {S : Nat → Prop} {h : H} {a : Option Addr} {n c : Nat} {rows : List (List Value)} (s : SlK k S h (.slice a n c) rows) {m : Nat} (hm : m ≤ n) : SlK k S h (.slice a m m) (rows.take m) := by
  have hl := s.cap
  obtain ⟨hr, ⟨a', s1, rfl⟩ | ⟨b, o, cp, cc, E, fr, s1, s2, s3, s4, s5, s6⟩⟩ := s
  · simp only [Value.slice.injEq] at s1
    obtain ⟨rfl, rfl, rfl⟩ := s1
    obtain rfl : m = 0 := by omega
    exact ⟨fun r hr => by simp at hr, .inl ⟨_, rfl, by simp⟩⟩
  · simp only [Value.slice.injEq] at s1
    obtain ⟨rfl, rfl, rfl⟩ := s1
    have h1 : m * k ≤ rows.length * k := Nat.mul_le_mul_right _ hm
    have h2 : rows.length * k ≤ c * k := Nat.mul_le_mul_right _ s4
    refine ⟨hr.sub fun r hr => List.mem_of_mem_take hr, .inr ⟨b, o, m, cc, E, fr, ?_, s2, by omega, by rw [List.length_take]; omega, ?_, s6⟩⟩
    · rw [List.length_take, Nat.min_eq_left (by omega)]
    · rw [flat_take hr]
      have := s5.sub 0 (m * k)
      simpa using this
/-- append of one row: to a slice that is full, or to one's own. -/
theorem push_any {k : Nat} {S O : Nat → Prop} {h : H} {E : TypeId} {bytes : Nat} {z : Array Value} {s : Value} {row : List Value} {rows : List (List Value)} {V : Nat → Value → H → Prop} (hs : (∃ a, s = .slice a rows.length rows.length ∧ SlK k S h s rows) ∨ OwK k O h E s rows) (hO : ∀ b, h b = none → O b)
    (hrow : row.length = k) (hz : z.size = k) (hcell : row.all isCell = true) (hlen : 2 * ((rows.length + 1) * bytes) ≤ 281474976710656) (hlen' : rows.length + 1 ≤ 9223372036854775807)
    (hk : ∀ (b : Nat) s' h', h b = none → OwK k O h' E s' (rows ++ [row]) → Fr O h h' → V b s' h') :
    ∀ b, h b = none → appM E k bytes z s (.slice (some ⟨b, 0, none⟩) 1 1) (hupd h b (.cells row.toArray E)) (V b) := by
  rcases hs with ⟨a, rfl, hs⟩ | hs
  · intro b hb
    have hrect : Rect k [row] := fun r hr => by simp at hr; subst hr; exact hrow
    have hfl : flat [row] = row := by simp [flat]
    have hl : SlK k nos (hupd h b (.cells row.toArray E)) (.slice (some ⟨b, 0, none⟩) 1 1) [row] :=
      (OwK.lit (O := fun _ => True) hrect rfl (by simp [hrow]) (Nat.le_refl _) (by rw [hfl]; have := at_arr row #[]; simpa using this) trivial (.inl rfl)).s0
    obtain ⟨h1, h2⟩ := SlK.src hl
    have h3 := h2 1 (by simp)
    rw [List.take_of_length_le (by simp)] at h3
    refine app_full (hs.ext (Ext.new hb _)) rfl (by simp) (fun y hy => hO y ((Ext.new hb _).bk hy)) hrect h1 h3 (by rw [hfl]; exact hcell) hz hlen hlen' ?_
    intro v h' o' e' hat
    exact hk b v h' hb o' (((Ext.new hb _).trans e').mono fun _ h => h.elim)
  · exact pushk hs hO hrow hz hcell hlen hlen' fun b s' h' hb o' f' hat => hk b s' h' hb o' (f'.mono fun y hy => hy.1)
/-- append of nothing. -/
theorem app_nil {k : Nat} {h : H} {E : TypeId} {bytes n c : Nat} {a : Option Addr} {z : Array Value} {x : Value} {V : Value → H → Prop} (hx : srcLen x = some 0) (hc : srcCells h k 0 x = some #[]) (hn : n ≤ c) (hV : V (.slice a n c) h) : appM E k bytes z (.slice a n c) x h V := by
  unfold appM
  simp only [hx]
  rw [if_pos (by omega), hc]
  cases a with
  | none => exact hV
  | some a => simpa [storeH] using hV
section
variable {P : Program}
/-- Structs of two numbers, held against one another. -/
theorem run_eqSt2 {w : World} {t : TypeId} {f1 f2 : Field} {xs ys : Array Value} {k : IntKind} {a1 a2 b1 b2 : Int} (d : Nat) (hu : P.underlying t = some (.struct #[f1, f2])) (hs : P.stoodInHeld t = false) (n1 : ¬ f1.name = "_") (n2 : ¬ f2.name = "_")
    (h1 : P.underlying f1.type = some (.int k)) (h2 : P.underlying f2.type = some (.int k))
    (x1 : xs[f1.offset]? = some (.int k a1)) (x2 : xs[f2.offset]? = some (.int k a2)) (y1 : ys[f1.offset]? = some (.int k b1)) (y2 : ys[f2.offset]? = some (.int k b2)) :
    (Op.equalIn (d + 2) t (.agg xs) (.agg ys)).run P w = .ok (a1 == b1 && a2 == b2) w := by
  have hr := run_underlying hu w
  have p1 := fun w => partV (w := w) h1 rfl x1
  have p2 := fun w => partV (w := w) h2 rfl x2
  have r1 := fun w => partV (w := w) h1 rfl y1
  have r2 := fun w => partV (w := w) h2 rfl y2
  have q1 := fun w => run_eqI (w := w) (k' := k) (a := a1) (b := b1) d h1
  have q2 := fun w => run_eqI (w := w) (k' := k) (a := a2) (b := b2) d h2
  unfold Op.equalIn
  by_cases h : a1 = b1
  · subst h
    by_cases h' : a2 = b2
    · subst h'
      simp [hr, hs, p1, p2, r1, r2, q1, q2, n1, n2]
    · simp [hr, hs, p1, p2, r1, r2, q1, q2, n1, n2, h']
  · simp [hr, hs, p1, p2, r1, r2, q1, q2, n1, n2, h]
theorem raw_neSt2 {e : Env} {h : H} {V : Value → H → Prop} {X : List PanicEntry → H → Prop} {d : Option Nat} {x y : Operand} {t ty yt : TypeId} {xs ys : Array Value} {q : Bool} (hq : ∀ w, (Op.equalIn (9998 + 2) t (.agg xs) (.agg ys)).run P w = .ok q w) (hx : ev e x = some (.agg xs)) (hy : ev e y = some (.agg ys)) (hg : P.eqGuardType P.depth t = false) (hk : V (.bool (!q)) h) :
    lM P (.raw ⟨d, .binOp .neq t x y yt, ty, "", #[], none⟩) e h V X := by
  intro a w ha hw
  have hev := ev_sound ha hx
  have hev2 := ev_sound ha hy
  refine ⟨_, w, .inl ?_, Kin.refl w, by rw [hw]; exact hk⟩
  have hq' : (Op.equal t (.agg xs) (.agg ys)).run P w = .ok q w := hq w
  unfold execOp
  simp only [hev, hev2]
  simp [eqGuard, binOp, hq', hg]
end
end Go.Proofs.Ytmjbgfflbeibnaa

import Derived.Test.YfwaawGreatAwFl
namespace Go.Proofs.YfwaawGreat
open Go.Aw
set_option linter.unusedVariables false
set_option maxRecDepth 100000
set_option maxHeartbeats 1000000
def str0 : List UInt8 := [63, 62, 15, 61, 6, 14, 35, 60, 2, 5, 13, 21, 25, 34, 46, 59, 1, 8, 4, 27, 10, 12, 20, 41, 18, 24, 30, 33, 39, 45, 51, 58, 0, 16, 7, 36, 3, 22, 26, 47, 9, 28, 11, 42, 19, 31, 40, 52, 17, 37, 23, 48, 29, 43, 32, 53, 38, 49, 44, 54, 50, 55, 56, 57]
def str1 : List UInt8 := [48, 49, 50, 51, 52, 53, 54, 55, 56, 57, 97, 98, 99, 100, 101, 102]
theorem ag112 : ∀ w, (isAgg 112).run Hfaa.prog w = .ok true w := fun w => by kernel_rfl
theorem ag119 : ∀ w, (isAgg 119).run Hfaa.prog w = .ok true w := fun w => by kernel_rfl
theorem ag151 : ∀ w, (isAgg 151).run Hfaa.prog w = .ok true w := fun w => by kernel_rfl
theorem ag175 : ∀ w, (isAgg 175).run Hfaa.prog w = .ok true w := fun w => by kernel_rfl
theorem ag181 : ∀ w, (isAgg 181).run Hfaa.prog w = .ok true w := fun w => by kernel_rfl
theorem ag23 : ∀ w, (isAgg 23).run Hfaa.prog w = .ok true w := fun w => by kernel_rfl
theorem ag259 : ∀ w, (isAgg 259).run Hfaa.prog w = .ok true w := fun w => by kernel_rfl
theorem ag272 : ∀ w, (isAgg 272).run Hfaa.prog w = .ok true w := fun w => by kernel_rfl
theorem ag286 : ∀ w, (isAgg 286).run Hfaa.prog w = .ok true w := fun w => by kernel_rfl
theorem ag297 : ∀ w, (isAgg 297).run Hfaa.prog w = .ok true w := fun w => by kernel_rfl
theorem ag307 : ∀ w, (isAgg 307).run Hfaa.prog w = .ok true w := fun w => by kernel_rfl
theorem ag35 : ∀ w, (isAgg 35).run Hfaa.prog w = .ok true w := fun w => by kernel_rfl
theorem ag355 : ∀ w, (isAgg 355).run Hfaa.prog w = .ok true w := fun w => by kernel_rfl
theorem ag42 : ∀ w, (isAgg 42).run Hfaa.prog w = .ok true w := fun w => by kernel_rfl
theorem ag59 : ∀ w, (isAgg 59).run Hfaa.prog w = .ok true w := fun w => by kernel_rfl
theorem ag76 : ∀ w, (isAgg 76).run Hfaa.prog w = .ok true w := fun w => by kernel_rfl
theorem ag90 : ∀ w, (isAgg 90).run Hfaa.prog w = .ok true w := fun w => by kernel_rfl
theorem ag96 : ∀ w, (isAgg 96).run Hfaa.prog w = .ok true w := fun w => by kernel_rfl
def ba346f : Nat → List UInt8 := fun i => match i with | 0 => ([118] : List UInt8) | 1 => ([122] : List UInt8) | 2 => ([111] : List UInt8) | 3 => ([117] : List UInt8) | _ => ([120] : List UInt8)
theorem ba346 {n : Nat} {ops : Array Oper} {ty : TypeId} {pos : String} {after : Array Edge} {d : Nat} (hn : Nat.blt d n = true) : LR Hfaa.prog n ops ⟨some d, .build 346 #[(0, .const (Sv ([118] : List UInt8))), (1, .const (Sv ([122] : List UInt8))), (2, .const (Sv ([111] : List UInt8))), (3, .const (Sv ([117] : List UInt8))), (4, .const (Sv ([120] : List UInt8)))], ty, pos, after, none⟩ ⟨[], [], []⟩ ⟨[(d, .inl (agg (ar Sv 5 ba346f ++ [])))], []⟩ :=
  LR_valC hn (v := .agg (arv Sv 5 ba346f).toArray) (fun a w => by kernel_rfl) (fun H => ⟨_, rfl, all2_arv⟩)
theorem bl112 {n : Nat} {ops : Array Oper} {ty : TypeId} {pos : String} {after : Array Edge} {d : Nat} {ps : List Part} {r : List (Nat × TV)} {parts : List (Nat × Operand)} (hp : PartsAt (#[(0, 1), (1, 1), (2, 1), (3, 1)][·]?) 4 ps r) (hparts : ps.map (fun p => (p.i, p.x)) = parts) (hn : Nat.blt d n = true) :
    LR Hfaa.prog n ops ⟨some d, .build 112 parts.toArray, ty, pos, after, none⟩ ⟨r, [], []⟩ ⟨[(d, .inl (agg (fillL [is (Bl false), is (I8 0), is (I16 0), is (U64 (0#64))] (ps.map fun p => (p.off, p.seg)))))], []⟩ :=
  LR_build (zs := [Bl false, I8 0, I16 0, U64 (0#64)]) hp hparts (fun _ => ⟨rfl, rfl, rfl, rfl, trivial⟩) (build_hb (places := #[(0, 1), (1, 1), (2, 1), (3, 1)]) (z := .agg #[Bl false, I8 0, I16 0, U64 (0#64)]) Hfaa.underlying112 (fun w => by kernel_rfl) rfl (fun w => by kernel_rfl)) hn
theorem bl119 {n : Nat} {ops : Array Oper} {ty : TypeId} {pos : String} {after : Array Edge} {d : Nat} {ps : List Part} {r : List (Nat × TV)} {parts : List (Nat × Operand)} (hp : PartsAt (#[(0, 1), (1, 1), (2, 1)][·]?) 3 ps r) (hparts : ps.map (fun p => (p.i, p.x)) = parts) (hn : Nat.blt d n = true) :
    LR Hfaa.prog n ops ⟨some d, .build 119 parts.toArray, ty, pos, after, none⟩ ⟨r, [], []⟩ ⟨[(d, .inl (agg (fillL [is (Bl false), big 0, big 0] (ps.map fun p => (p.off, p.seg)))))], []⟩ :=
  LR_build (zs := [Bl false, Value.slice none 0 0, Value.slice none 0 0]) hp hparts (fun _ => ⟨rfl, big_nil _, big_nil _, trivial⟩) (build_hb (places := #[(0, 1), (1, 1), (2, 1)]) (z := .agg #[Bl false, Value.slice none 0 0, Value.slice none 0 0]) Hfaa.underlying119 (fun w => by kernel_rfl) rfl (fun w => by kernel_rfl)) hn
theorem bl151 {n : Nat} {ops : Array Oper} {ty : TypeId} {pos : String} {after : Array Edge} {d : Nat} {ps : List Part} {r : List (Nat × TV)} {parts : List (Nat × Operand)} (hp : PartsAt (#[(0, 1), (1, 1), (2, 1)][·]?) 3 ps r) (hparts : ps.map (fun p => (p.i, p.x)) = parts) (hn : Nat.blt d n = true) :
    LR Hfaa.prog n ops ⟨some d, .build 151 parts.toArray, ty, pos, after, none⟩ ⟨r, [], []⟩ ⟨[(d, .inl (agg (fillL [is (Bl false), is (Sv ([] : List UInt8)), is (I16 0)] (ps.map fun p => (p.off, p.seg)))))], []⟩ :=
  LR_build (zs := [Bl false, Sv ([] : List UInt8), I16 0]) hp hparts (fun _ => ⟨rfl, rfl, rfl, trivial⟩) (build_hb (places := #[(0, 1), (1, 1), (2, 1)]) (z := .agg #[Bl false, Sv ([] : List UInt8), I16 0]) Hfaa.underlying151 (fun w => by kernel_rfl) rfl (fun w => by kernel_rfl)) hn
theorem bl175 {n : Nat} {ops : Array Oper} {ty : TypeId} {pos : String} {after : Array Edge} {d : Nat} {ps : List Part} {r : List (Nat × TV)} {parts : List (Nat × Operand)} (hp : PartsAt (#[(0, 1), (1, 1), (2, 1), (3, 3)][·]?) 6 ps r) (hparts : ps.map (fun p => (p.i, p.x)) = parts) (hn : Nat.blt d n = true) :
    LR Hfaa.prog n ops ⟨some d, .build 175 parts.toArray, ty, pos, after, none⟩ ⟨r, [], []⟩ ⟨[(d, .inl (agg (fillL [is (U64 (0#64)), is (Bl false), is (I8 0), is (Bl false), big 0, big 0] (ps.map fun p => (p.off, p.seg)))))], []⟩ :=
  LR_build (zs := [U64 (0#64), Bl false, I8 0, Bl false, Value.slice none 0 0, Value.slice none 0 0]) hp hparts (fun _ => ⟨rfl, rfl, rfl, rfl, big_nil _, big_nil _, trivial⟩) (build_hb (places := #[(0, 1), (1, 1), (2, 1), (3, 3)]) (z := .agg #[U64 (0#64), Bl false, I8 0, Bl false, Value.slice none 0 0, Value.slice none 0 0]) Hfaa.underlying175 (fun w => by kernel_rfl) rfl (fun w => by kernel_rfl)) hn
theorem bl181 {n : Nat} {ops : Array Oper} {ty : TypeId} {pos : String} {after : Array Edge} {d : Nat} {ps : List Part} {r : List (Nat × TV)} {parts : List (Nat × Operand)} (hp : PartsAt (#[(0, 1), (1, 1)][·]?) 2 ps r) (hparts : ps.map (fun p => (p.i, p.x)) = parts) (hn : Nat.blt d n = true) :
    LR Hfaa.prog n ops ⟨some d, .build 181 parts.toArray, ty, pos, after, none⟩ ⟨r, [], []⟩ ⟨[(d, .inl (agg (fillL [is (I8 0), is (Bl false)] (ps.map fun p => (p.off, p.seg)))))], []⟩ :=
  LR_build (zs := [I8 0, Bl false]) hp hparts (fun _ => ⟨rfl, rfl, trivial⟩) (build_hb (places := #[(0, 1), (1, 1)]) (z := .agg #[I8 0, Bl false]) Hfaa.underlying181 (fun w => by kernel_rfl) rfl (fun w => by kernel_rfl)) hn
theorem bl23 {n : Nat} {ops : Array Oper} {ty : TypeId} {pos : String} {after : Array Edge} {d : Nat} {ps : List Part} {r : List (Nat × TV)} {parts : List (Nat × Operand)} (hp : PartsAt (#[(0, 1), (1, 1)][·]?) 2 ps r) (hparts : ps.map (fun p => (p.i, p.x)) = parts) (hn : Nat.blt d n = true) :
    LR Hfaa.prog n ops ⟨some d, .build 23 parts.toArray, ty, pos, after, none⟩ ⟨r, [], []⟩ ⟨[(d, .inl (agg (fillL [is (U8 (0#8)), is (U8 (0#8))] (ps.map fun p => (p.off, p.seg)))))], []⟩ :=
  LR_build (zs := [U8 (0#8), U8 (0#8)]) hp hparts (fun _ => ⟨rfl, rfl, trivial⟩) (build_hb (places := #[(0, 1), (1, 1)]) (z := .agg #[U8 (0#8), U8 (0#8)]) Hfaa.underlying23 (fun w => by kernel_rfl) rfl (fun w => by kernel_rfl)) hn
theorem bl272 {n : Nat} {ops : Array Oper} {ty : TypeId} {pos : String} {after : Array Edge} {d : Nat} {ps : List Part} {r : List (Nat × TV)} {parts : List (Nat × Operand)} (hp : PartsAt (#[(0, 1), (1, 1), (2, 2)][·]?) 4 ps r) (hparts : ps.map (fun p => (p.i, p.x)) = parts) (hn : Nat.blt d n = true) :
    LR Hfaa.prog n ops ⟨some d, .build 272 parts.toArray, ty, pos, after, none⟩ ⟨r, [], []⟩ ⟨[(d, .inl (agg (fillL [is (Bl false), is (I16 0), is (U64 (0#64)), is (U64 (0#64))] (ps.map fun p => (p.off, p.seg)))))], []⟩ :=
  LR_build (zs := [Bl false, I16 0, U64 (0#64), U64 (0#64)]) hp hparts (fun _ => ⟨rfl, rfl, rfl, rfl, trivial⟩) (build_hb (places := #[(0, 1), (1, 1), (2, 2)]) (z := .agg #[Bl false, I16 0, U64 (0#64), U64 (0#64)]) Hfaa.underlying272 (fun w => by kernel_rfl) rfl (fun w => by kernel_rfl)) hn
theorem bl297 {n : Nat} {ops : Array Oper} {ty : TypeId} {pos : String} {after : Array Edge} {d : Nat} {ps : List Part} {r : List (Nat × TV)} {parts : List (Nat × Operand)} (hp : PartsAt (#[(0, 1), (1, 3), (4, 1), (5, 1)][·]?) 6 ps r) (hparts : ps.map (fun p => (p.i, p.x)) = parts) (hn : Nat.blt d n = true) :
    LR Hfaa.prog n ops ⟨some d, .build 297 parts.toArray, ty, pos, after, none⟩ ⟨r, [], []⟩ ⟨[(d, .inl (agg (fillL [is (U8 (0#8)), is (Bl false), is (Sv ([] : List UInt8)), is (I16 0), is (I64 0), is (I32 0)] (ps.map fun p => (p.off, p.seg)))))], []⟩ :=
  LR_build (zs := [U8 (0#8), Bl false, Sv ([] : List UInt8), I16 0, I64 0, I32 0]) hp hparts (fun _ => ⟨rfl, rfl, rfl, rfl, rfl, rfl, trivial⟩) (build_hb (places := #[(0, 1), (1, 3), (4, 1), (5, 1)]) (z := .agg #[U8 (0#8), Bl false, Sv ([] : List UInt8), I16 0, I64 0, I32 0]) Hfaa.underlying297 (fun w => by kernel_rfl) rfl (fun w => by kernel_rfl)) hn
theorem bl307 {n : Nat} {ops : Array Oper} {ty : TypeId} {pos : String} {after : Array Edge} {d : Nat} {ps : List Part} {r : List (Nat × TV)} {parts : List (Nat × Operand)} (hp : PartsAt (#[(0, 1), (1, 3), (4, 1), (5, 1)][·]?) 6 ps r) (hparts : ps.map (fun p => (p.i, p.x)) = parts) (hn : Nat.blt d n = true) :
    LR Hfaa.prog n ops ⟨some d, .build 307 parts.toArray, ty, pos, after, none⟩ ⟨r, [], []⟩ ⟨[(d, .inl (agg (fillL [is (U8 (0#8)), is (Bl false), is (Sv ([] : List UInt8)), is (I16 0), is (I64 0), is (I32 0)] (ps.map fun p => (p.off, p.seg)))))], []⟩ :=
  LR_build (zs := [U8 (0#8), Bl false, Sv ([] : List UInt8), I16 0, I64 0, I32 0]) hp hparts (fun _ => ⟨rfl, rfl, rfl, rfl, rfl, rfl, trivial⟩) (build_hb (places := #[(0, 1), (1, 3), (4, 1), (5, 1)]) (z := .agg #[U8 (0#8), Bl false, Sv ([] : List UInt8), I16 0, I64 0, I32 0]) Hfaa.underlying307 (fun w => by kernel_rfl) rfl (fun w => by kernel_rfl)) hn
theorem bl355 {n : Nat} {ops : Array Oper} {ty : TypeId} {pos : String} {after : Array Edge} {d : Nat} {ps : List Part} {r : List (Nat × TV)} {parts : List (Nat × Operand)} (hp : PartsAt (#[(0, 1), (1, 1), (2, 1), (3, 1), (4, 1)][·]?) 5 ps r) (hparts : ps.map (fun p => (p.i, p.x)) = parts) (hn : Nat.blt d n = true) :
    LR Hfaa.prog n ops ⟨some d, .build 355 parts.toArray, ty, pos, after, none⟩ ⟨r, [], []⟩ ⟨[(d, .inl (agg (fillL [is (Bl false), is (Bl false), ns U8 (true, 0, fun _ => 0#8), is (I64 0), is (I64 0)] (ps.map fun p => (p.off, p.seg)))))], []⟩ :=
  LR_build (zs := [Bl false, Bl false, Value.slice none 0 0, I64 0, I64 0]) hp hparts (fun _ => ⟨rfl, rfl, ns_nil _ _, rfl, rfl, trivial⟩) (build_hb (places := #[(0, 1), (1, 1), (2, 1), (3, 1), (4, 1)]) (z := .agg #[Bl false, Bl false, Value.slice none 0 0, I64 0, I64 0]) Hfaa.underlying355 (fun w => by kernel_rfl) rfl (fun w => by kernel_rfl)) hn
theorem bl42 {n : Nat} {ops : Array Oper} {ty : TypeId} {pos : String} {after : Array Edge} {d : Nat} {ps : List Part} {r : List (Nat × TV)} {parts : List (Nat × Operand)} (hp : PartsAt (#[(0, 1), (1, 1)][·]?) 2 ps r) (hparts : ps.map (fun p => (p.i, p.x)) = parts) (hn : Nat.blt d n = true) :
    LR Hfaa.prog n ops ⟨some d, .build 42 parts.toArray, ty, pos, after, none⟩ ⟨r, [], []⟩ ⟨[(d, .inl (agg (fillL [is (U64 (0#64)), is (U64 (0#64))] (ps.map fun p => (p.off, p.seg)))))], []⟩ :=
  LR_build (zs := [U64 (0#64), U64 (0#64)]) hp hparts (fun _ => ⟨rfl, rfl, trivial⟩) (build_hb (places := #[(0, 1), (1, 1)]) (z := .agg #[U64 (0#64), U64 (0#64)]) Hfaa.underlying42 (fun w => by kernel_rfl) rfl (fun w => by kernel_rfl)) hn
theorem bl76 {n : Nat} {ops : Array Oper} {ty : TypeId} {pos : String} {after : Array Edge} {d : Nat} {ps : List Part} {r : List (Nat × TV)} {parts : List (Nat × Operand)} (hp : PartsAt (#[(0, 1), (1, 1), (2, 1)][·]?) 3 ps r) (hparts : ps.map (fun p => (p.i, p.x)) = parts) (hn : Nat.blt d n = true) :
    LR Hfaa.prog n ops ⟨some d, .build 76 parts.toArray, ty, pos, after, none⟩ ⟨r, [], []⟩ ⟨[(d, .inl (agg (fillL [is (Bl false), is (Sv ([] : List UInt8)), is (I16 0)] (ps.map fun p => (p.off, p.seg)))))], []⟩ :=
  LR_build (zs := [Bl false, Sv ([] : List UInt8), I16 0]) hp hparts (fun _ => ⟨rfl, rfl, rfl, trivial⟩) (build_hb (places := #[(0, 1), (1, 1), (2, 1)]) (z := .agg #[Bl false, Sv ([] : List UInt8), I16 0]) Hfaa.underlying76 (fun w => by kernel_rfl) rfl (fun w => by kernel_rfl)) hn
theorem blA215 {n : Nat} {ops : Array Oper} {ty : TypeId} {pos : String} {after : Array Edge} {d : Nat} {ps : List Part} {r : List (Nat × TV)} {parts : List (Nat × Operand)} (hp : PartsAt (#[(0, 1441), (1441, 1), (1442, 1), (1443, 1), (1444, 1)][·]?) 1445 ps r) (hparts : ps.map (fun p => (p.i, p.x)) = parts) (hn : Nat.blt d n = true) :
    LR Hfaa.prog n ops ⟨some d, .build 215 parts.toArray, ty, pos, after, none⟩ ⟨r, [], []⟩ ⟨[(d, .inl (agg (fillL (ar U8 1441 (fun _ => 0#8) ++ (is (I64 0) :: (is (I64 0) :: (is (I64 0) :: (is (I64 0) :: []))))) (ps.map fun p => (p.off, p.seg)))))], []⟩ :=
  LR_build (zs := (arv U8 1441 (fun _ => 0#8) ++ (I64 0 :: (I64 0 :: (I64 0 :: (I64 0 :: [])))))) (by rw [show ((arv U8 1441 (fun _ => 0#8) ++ (I64 0 :: (I64 0 :: (I64 0 :: (I64 0 :: []))))) : List Value).length = 1445 from by kernel_rfl]; exact hp) hparts (fun _ => all2_ar (⟨rfl, ⟨rfl, ⟨rfl, ⟨rfl, all2_nil⟩⟩⟩⟩)) (build_hb (places := #[(0, 1441), (1441, 1), (1442, 1), (1443, 1), (1444, 1)]) (z := .agg ((arv U8 1441 (fun _ => 0#8) ++ (I64 0 :: (I64 0 :: (I64 0 :: (I64 0 :: [])))))).toArray) Hfaa.underlying215 (fun w => by kernel_rfl) rfl (fun w => by kernel_rfl)) hn
theorem blA59 {n : Nat} {ops : Array Oper} {ty : TypeId} {pos : String} {after : Array Edge} {d : Nat} {ps : List Part} {r : List (Nat × TV)} {parts : List (Nat × Operand)} (hp : PartsAt (#[(0, 1), (1, 8), (9, 1)][·]?) 10 ps r) (hparts : ps.map (fun p => (p.i, p.x)) = parts) (hn : Nat.blt d n = true) :
    LR Hfaa.prog n ops ⟨some d, .build 59 parts.toArray, ty, pos, after, none⟩ ⟨r, [], []⟩ ⟨[(d, .inl (agg (fillL (is (Bl false) :: (ar U64 8 (fun _ => 0#64) ++ (ns Sv ((true, 0, fun _ => ([] : List UInt8))) :: []))) (ps.map fun p => (p.off, p.seg)))))], []⟩ :=
  LR_build (zs := (Bl false :: (arv U64 8 (fun _ => 0#64) ++ (Value.slice none 0 0 :: [])))) (by rw [show ((Bl false :: (arv U64 8 (fun _ => 0#64) ++ (Value.slice none 0 0 :: []))) : List Value).length = 10 from by kernel_rfl]; exact hp) hparts (fun _ => ⟨rfl, all2_ar (⟨ns_nil _ _, all2_nil⟩)⟩) (build_hb (places := #[(0, 1), (1, 8), (9, 1)]) (z := .agg ((Bl false :: (arv U64 8 (fun _ => 0#64) ++ (Value.slice none 0 0 :: [])))).toArray) Hfaa.underlying59 (fun w => by kernel_rfl) rfl (fun w => by kernel_rfl)) hn
theorem blA90 {n : Nat} {ops : Array Oper} {ty : TypeId} {pos : String} {after : Array Edge} {d : Nat} {ps : List Part} {r : List (Nat × TV)} {parts : List (Nat × Operand)} (hp : PartsAt (#[(0, 8), (8, 1)][·]?) 9 ps r) (hparts : ps.map (fun p => (p.i, p.x)) = parts) (hn : Nat.blt d n = true) :
    LR Hfaa.prog n ops ⟨some d, .build 90 parts.toArray, ty, pos, after, none⟩ ⟨r, [], []⟩ ⟨[(d, .inl (agg (fillL (ar U64 8 (fun _ => 0#64) ++ (ns Sv ((true, 0, fun _ => ([] : List UInt8))) :: [])) (ps.map fun p => (p.off, p.seg)))))], []⟩ :=
  LR_build (zs := (arv U64 8 (fun _ => 0#64) ++ (Value.slice none 0 0 :: []))) (by rw [show ((arv U64 8 (fun _ => 0#64) ++ (Value.slice none 0 0 :: [])) : List Value).length = 9 from by kernel_rfl]; exact hp) hparts (fun _ => all2_ar (⟨ns_nil _ _, all2_nil⟩)) (build_hb (places := #[(0, 8), (8, 1)]) (z := .agg ((arv U64 8 (fun _ => 0#64) ++ (Value.slice none 0 0 :: []))).toArray) Hfaa.underlying90 (fun w => by kernel_rfl) rfl (fun w => by kernel_rfl)) hn
theorem bz35 {n : Nat} {ops : Array Oper} {ty : TypeId} {pos : String} {after : Array Edge} {d : Nat} (hn : Nat.blt d n = true) : LR Hfaa.prog n ops ⟨some d, .build 35 #[], ty, pos, after, none⟩ ⟨[], [], []⟩ ⟨[(d, .inl (agg (ar U64 8 (fun _ => 0#64) ++ [])))], []⟩ :=
  LR_valC hn (v := .agg (arv U64 8 (fun _ => 0#64)).toArray) (fun a w => by kernel_rfl) (fun H => ⟨_, rfl, all2_arv⟩)
theorem eN5 : EltN Hfaa.prog 5 1 := eltN_of (z := U8 (0#8)) (by kernel_rfl) (by kernel_rfl) rfl rfl
theorem eN9 : EltN Hfaa.prog 9 1 := eltN_of (z := Sv ([] : List UInt8)) (by kernel_rfl) (by kernel_rfl) rfl rfl
theorem eN96 : EltN Hfaa.prog 96 6 := eltN_of (z := .agg #[U8 (0#8), U8 (0#8), U8 (0#8), U8 (0#8), U64 (0#64), Sv ([] : List UInt8)]) (by kernel_rfl) (by kernel_rfl) rfl rfl
theorem el5 : Elt Hfaa.prog 5 (U8 0#8) := elt_of (fun w => by kernel_rfl) rfl (by kernel_rfl) (by kernel_rfl)
theorem el65 : Elt Hfaa.prog 65 (U32 0#32) := elt_of (fun w => by kernel_rfl) rfl (by kernel_rfl) (by kernel_rfl)
theorem el9 : Elt Hfaa.prog 9 (Sv ([] : List UInt8)) := elt_of (fun w => by kernel_rfl) rfl (by kernel_rfl) (by kernel_rfl)
theorem ex262 (x : Option Nat) (hx : x.isSome = true) : ExtF Hfaa.prog 262 [fl .f64 x] (is (U64 (BitVec.ofNat 64 (x.getD 0)))) := ext_of Hfaa.func262 rfl rfl (by kernel_rfl) (by kernel_rfl) (row_bits64 x hx)
theorem ex263 (x : Option Nat) (hx : x.isSome = true) : ExtF Hfaa.prog 263 [fl .f32 x] (is (U32 (BitVec.ofNat 32 (x.getD 0)))) := ext_of Hfaa.func263 rfl rfl (by kernel_rfl) (by kernel_rfl) (row_bits32 x hx)
theorem ex404 (x : BitVec 64) : ExtF Hfaa.prog 404 [is (U64 x)] (fl .f64 (some x.toNat)) := ext_of Hfaa.func404 rfl rfl (by kernel_rfl) (by kernel_rfl) (row_from64 x)
theorem ex406 (x : BitVec 32) : ExtF Hfaa.prog 406 [is (U32 x)] (fl .f32 (some x.toNat)) := ext_of Hfaa.func406 rfl rfl (by kernel_rfl) (by kernel_rfl) (row_from32 x)
theorem ex420 (x : Option Nat) : ExtF Hfaa.prog 420 [fl .f64 x] (fl .f64 (fsqrt x)) := ext_of Hfaa.func420 rfl rfl (by kernel_rfl) (by kernel_rfl) (row_sqrt x)
theorem ex421 (x y z : Option Nat) : ExtF Hfaa.prog 421 [fl .f64 x, fl .f64 y, fl .f64 z] (fl .f64 (ffma x y z)) := ext_of Hfaa.func421 rfl rfl (by kernel_rfl) (by kernel_rfl) (row_fma x y z)
theorem ex427 (x : Option Nat) : ExtF Hfaa.prog 427 [fl .f64 x] (fl .f64 (fint .even x)) := ext_of Hfaa.func427 rfl rfl (by kernel_rfl) (by kernel_rfl) (row_int "math.RoundToEven" .even x)
theorem ex436 (x : Option Nat) : ExtF Hfaa.prog 436 [fl .f64 x] (fl .f64 (fint .zero x)) := ext_of Hfaa.func436 rfl rfl (by kernel_rfl) (by kernel_rfl) (row_int "math.archTrunc" .zero x)
theorem ex438 (x : Option Nat) : ExtF Hfaa.prog 438 [fl .f64 x] (fl .f64 (fint .up x)) := ext_of Hfaa.func438 rfl rfl (by kernel_rfl) (by kernel_rfl) (row_int "math.archCeil" .up x)
theorem ex440 (x : Option Nat) : ExtF Hfaa.prog 440 [fl .f64 x] (fl .f64 (fint .down x)) := ext_of Hfaa.func440 rfl rfl (by kernel_rfl) (by kernel_rfl) (row_int "math.archFloor" .down x)
theorem fa112_0 : ∀ b off w, (Instr.fieldAt 112 (.pointer (some ⟨b, off, none⟩)) 0).run Hfaa.prog w = .ok (.pointer (some ⟨b, off + 0, none⟩)) w := fun b off w => by kernel_rfl
theorem fa112_1 : ∀ b off w, (Instr.fieldAt 112 (.pointer (some ⟨b, off, none⟩)) 1).run Hfaa.prog w = .ok (.pointer (some ⟨b, off + 1, none⟩)) w := fun b off w => by kernel_rfl
theorem fa112_2 : ∀ b off w, (Instr.fieldAt 112 (.pointer (some ⟨b, off, none⟩)) 2).run Hfaa.prog w = .ok (.pointer (some ⟨b, off + 2, none⟩)) w := fun b off w => by kernel_rfl
theorem fa112_3 : ∀ b off w, (Instr.fieldAt 112 (.pointer (some ⟨b, off, none⟩)) 3).run Hfaa.prog w = .ok (.pointer (some ⟨b, off + 3, none⟩)) w := fun b off w => by kernel_rfl
theorem fa119_0 : ∀ b off w, (Instr.fieldAt 119 (.pointer (some ⟨b, off, none⟩)) 0).run Hfaa.prog w = .ok (.pointer (some ⟨b, off + 0, none⟩)) w := fun b off w => by kernel_rfl
theorem fa119_1 : ∀ b off w, (Instr.fieldAt 119 (.pointer (some ⟨b, off, none⟩)) 1).run Hfaa.prog w = .ok (.pointer (some ⟨b, off + 1, none⟩)) w := fun b off w => by kernel_rfl
theorem fa119_2 : ∀ b off w, (Instr.fieldAt 119 (.pointer (some ⟨b, off, none⟩)) 2).run Hfaa.prog w = .ok (.pointer (some ⟨b, off + 2, none⟩)) w := fun b off w => by kernel_rfl
theorem fa151_0 : ∀ b off w, (Instr.fieldAt 151 (.pointer (some ⟨b, off, none⟩)) 0).run Hfaa.prog w = .ok (.pointer (some ⟨b, off + 0, none⟩)) w := fun b off w => by kernel_rfl
theorem fa151_1 : ∀ b off w, (Instr.fieldAt 151 (.pointer (some ⟨b, off, none⟩)) 1).run Hfaa.prog w = .ok (.pointer (some ⟨b, off + 1, none⟩)) w := fun b off w => by kernel_rfl
theorem fa151_2 : ∀ b off w, (Instr.fieldAt 151 (.pointer (some ⟨b, off, none⟩)) 2).run Hfaa.prog w = .ok (.pointer (some ⟨b, off + 2, none⟩)) w := fun b off w => by kernel_rfl
theorem fa175_0 : ∀ b off w, (Instr.fieldAt 175 (.pointer (some ⟨b, off, none⟩)) 0).run Hfaa.prog w = .ok (.pointer (some ⟨b, off + 0, none⟩)) w := fun b off w => by kernel_rfl
theorem fa175_1 : ∀ b off w, (Instr.fieldAt 175 (.pointer (some ⟨b, off, none⟩)) 1).run Hfaa.prog w = .ok (.pointer (some ⟨b, off + 1, none⟩)) w := fun b off w => by kernel_rfl
theorem fa175_2 : ∀ b off w, (Instr.fieldAt 175 (.pointer (some ⟨b, off, none⟩)) 2).run Hfaa.prog w = .ok (.pointer (some ⟨b, off + 2, none⟩)) w := fun b off w => by kernel_rfl
theorem fa175_3 : ∀ b off w, (Instr.fieldAt 175 (.pointer (some ⟨b, off, none⟩)) 3).run Hfaa.prog w = .ok (.pointer (some ⟨b, off + 3, none⟩)) w := fun b off w => by kernel_rfl
theorem fa181_0 : ∀ b off w, (Instr.fieldAt 181 (.pointer (some ⟨b, off, none⟩)) 0).run Hfaa.prog w = .ok (.pointer (some ⟨b, off + 0, none⟩)) w := fun b off w => by kernel_rfl
theorem fa181_1 : ∀ b off w, (Instr.fieldAt 181 (.pointer (some ⟨b, off, none⟩)) 1).run Hfaa.prog w = .ok (.pointer (some ⟨b, off + 1, none⟩)) w := fun b off w => by kernel_rfl
theorem fa199_0 : ∀ b off w, (Instr.fieldAt 199 (.pointer (some ⟨b, off, none⟩)) 0).run Hfaa.prog w = .ok (.pointer (some ⟨b, off + 0, none⟩)) w := fun b off w => by kernel_rfl
theorem fa199_1 : ∀ b off w, (Instr.fieldAt 199 (.pointer (some ⟨b, off, none⟩)) 1).run Hfaa.prog w = .ok (.pointer (some ⟨b, off + 1, none⟩)) w := fun b off w => by kernel_rfl
theorem fa199_2 : ∀ b off w, (Instr.fieldAt 199 (.pointer (some ⟨b, off, none⟩)) 2).run Hfaa.prog w = .ok (.pointer (some ⟨b, off + 2, none⟩)) w := fun b off w => by kernel_rfl
theorem fa199_3 : ∀ b off w, (Instr.fieldAt 199 (.pointer (some ⟨b, off, none⟩)) 3).run Hfaa.prog w = .ok (.pointer (some ⟨b, off + 3, none⟩)) w := fun b off w => by kernel_rfl
theorem fa199_4 : ∀ b off w, (Instr.fieldAt 199 (.pointer (some ⟨b, off, none⟩)) 4).run Hfaa.prog w = .ok (.pointer (some ⟨b, off + 4, none⟩)) w := fun b off w => by kernel_rfl
theorem fa199_5 : ∀ b off w, (Instr.fieldAt 199 (.pointer (some ⟨b, off, none⟩)) 5).run Hfaa.prog w = .ok (.pointer (some ⟨b, off + 5, none⟩)) w := fun b off w => by kernel_rfl
theorem fa199_6 : ∀ b off w, (Instr.fieldAt 199 (.pointer (some ⟨b, off, none⟩)) 6).run Hfaa.prog w = .ok (.pointer (some ⟨b, off + 6, none⟩)) w := fun b off w => by kernel_rfl
theorem fa215_0 : ∀ b off w, (Instr.fieldAt 215 (.pointer (some ⟨b, off, none⟩)) 0).run Hfaa.prog w = .ok (.pointer (some ⟨b, off + 0, none⟩)) w := fun b off w => by kernel_rfl
theorem fa215_1 : ∀ b off w, (Instr.fieldAt 215 (.pointer (some ⟨b, off, none⟩)) 1).run Hfaa.prog w = .ok (.pointer (some ⟨b, off + 1441, none⟩)) w := fun b off w => by kernel_rfl
theorem fa215_2 : ∀ b off w, (Instr.fieldAt 215 (.pointer (some ⟨b, off, none⟩)) 2).run Hfaa.prog w = .ok (.pointer (some ⟨b, off + 1442, none⟩)) w := fun b off w => by kernel_rfl
theorem fa215_3 : ∀ b off w, (Instr.fieldAt 215 (.pointer (some ⟨b, off, none⟩)) 3).run Hfaa.prog w = .ok (.pointer (some ⟨b, off + 1443, none⟩)) w := fun b off w => by kernel_rfl
theorem fa215_4 : ∀ b off w, (Instr.fieldAt 215 (.pointer (some ⟨b, off, none⟩)) 4).run Hfaa.prog w = .ok (.pointer (some ⟨b, off + 1444, none⟩)) w := fun b off w => by kernel_rfl
theorem fa23_0 : ∀ b off w, (Instr.fieldAt 23 (.pointer (some ⟨b, off, none⟩)) 0).run Hfaa.prog w = .ok (.pointer (some ⟨b, off + 0, none⟩)) w := fun b off w => by kernel_rfl
theorem fa23_1 : ∀ b off w, (Instr.fieldAt 23 (.pointer (some ⟨b, off, none⟩)) 1).run Hfaa.prog w = .ok (.pointer (some ⟨b, off + 1, none⟩)) w := fun b off w => by kernel_rfl
theorem fa261_0 : ∀ b off w, (Instr.fieldAt 261 (.pointer (some ⟨b, off, none⟩)) 0).run Hfaa.prog w = .ok (.pointer (some ⟨b, off + 0, none⟩)) w := fun b off w => by kernel_rfl
theorem fa261_1 : ∀ b off w, (Instr.fieldAt 261 (.pointer (some ⟨b, off, none⟩)) 1).run Hfaa.prog w = .ok (.pointer (some ⟨b, off + 1, none⟩)) w := fun b off w => by kernel_rfl
theorem fa272_0 : ∀ b off w, (Instr.fieldAt 272 (.pointer (some ⟨b, off, none⟩)) 0).run Hfaa.prog w = .ok (.pointer (some ⟨b, off + 0, none⟩)) w := fun b off w => by kernel_rfl
theorem fa272_1 : ∀ b off w, (Instr.fieldAt 272 (.pointer (some ⟨b, off, none⟩)) 1).run Hfaa.prog w = .ok (.pointer (some ⟨b, off + 1, none⟩)) w := fun b off w => by kernel_rfl
theorem fa272_2 : ∀ b off w, (Instr.fieldAt 272 (.pointer (some ⟨b, off, none⟩)) 2).run Hfaa.prog w = .ok (.pointer (some ⟨b, off + 2, none⟩)) w := fun b off w => by kernel_rfl
theorem fa286_0 : ∀ b off w, (Instr.fieldAt 286 (.pointer (some ⟨b, off, none⟩)) 0).run Hfaa.prog w = .ok (.pointer (some ⟨b, off + 0, none⟩)) w := fun b off w => by kernel_rfl
theorem fa286_1 : ∀ b off w, (Instr.fieldAt 286 (.pointer (some ⟨b, off, none⟩)) 1).run Hfaa.prog w = .ok (.pointer (some ⟨b, off + 20, none⟩)) w := fun b off w => by kernel_rfl
theorem fa297_0 : ∀ b off w, (Instr.fieldAt 297 (.pointer (some ⟨b, off, none⟩)) 0).run Hfaa.prog w = .ok (.pointer (some ⟨b, off + 0, none⟩)) w := fun b off w => by kernel_rfl
theorem fa297_1 : ∀ b off w, (Instr.fieldAt 297 (.pointer (some ⟨b, off, none⟩)) 1).run Hfaa.prog w = .ok (.pointer (some ⟨b, off + 1, none⟩)) w := fun b off w => by kernel_rfl
theorem fa307_0 : ∀ b off w, (Instr.fieldAt 307 (.pointer (some ⟨b, off, none⟩)) 0).run Hfaa.prog w = .ok (.pointer (some ⟨b, off + 0, none⟩)) w := fun b off w => by kernel_rfl
theorem fa307_1 : ∀ b off w, (Instr.fieldAt 307 (.pointer (some ⟨b, off, none⟩)) 1).run Hfaa.prog w = .ok (.pointer (some ⟨b, off + 1, none⟩)) w := fun b off w => by kernel_rfl
theorem fa355_0 : ∀ b off w, (Instr.fieldAt 355 (.pointer (some ⟨b, off, none⟩)) 0).run Hfaa.prog w = .ok (.pointer (some ⟨b, off + 0, none⟩)) w := fun b off w => by kernel_rfl
theorem fa355_1 : ∀ b off w, (Instr.fieldAt 355 (.pointer (some ⟨b, off, none⟩)) 1).run Hfaa.prog w = .ok (.pointer (some ⟨b, off + 1, none⟩)) w := fun b off w => by kernel_rfl
theorem fa355_2 : ∀ b off w, (Instr.fieldAt 355 (.pointer (some ⟨b, off, none⟩)) 2).run Hfaa.prog w = .ok (.pointer (some ⟨b, off + 2, none⟩)) w := fun b off w => by kernel_rfl
theorem fa355_3 : ∀ b off w, (Instr.fieldAt 355 (.pointer (some ⟨b, off, none⟩)) 3).run Hfaa.prog w = .ok (.pointer (some ⟨b, off + 3, none⟩)) w := fun b off w => by kernel_rfl
theorem fa355_4 : ∀ b off w, (Instr.fieldAt 355 (.pointer (some ⟨b, off, none⟩)) 4).run Hfaa.prog w = .ok (.pointer (some ⟨b, off + 4, none⟩)) w := fun b off w => by kernel_rfl
theorem fa42_0 : ∀ b off w, (Instr.fieldAt 42 (.pointer (some ⟨b, off, none⟩)) 0).run Hfaa.prog w = .ok (.pointer (some ⟨b, off + 0, none⟩)) w := fun b off w => by kernel_rfl
theorem fa42_1 : ∀ b off w, (Instr.fieldAt 42 (.pointer (some ⟨b, off, none⟩)) 1).run Hfaa.prog w = .ok (.pointer (some ⟨b, off + 1, none⟩)) w := fun b off w => by kernel_rfl
theorem fa47_0 : ∀ b off w, (Instr.fieldAt 47 (.pointer (some ⟨b, off, none⟩)) 0).run Hfaa.prog w = .ok (.pointer (some ⟨b, off + 0, none⟩)) w := fun b off w => by kernel_rfl
theorem fa47_1 : ∀ b off w, (Instr.fieldAt 47 (.pointer (some ⟨b, off, none⟩)) 1).run Hfaa.prog w = .ok (.pointer (some ⟨b, off + 1392, none⟩)) w := fun b off w => by kernel_rfl
theorem fa59_0 : ∀ b off w, (Instr.fieldAt 59 (.pointer (some ⟨b, off, none⟩)) 0).run Hfaa.prog w = .ok (.pointer (some ⟨b, off + 0, none⟩)) w := fun b off w => by kernel_rfl
theorem fa59_1 : ∀ b off w, (Instr.fieldAt 59 (.pointer (some ⟨b, off, none⟩)) 1).run Hfaa.prog w = .ok (.pointer (some ⟨b, off + 1, none⟩)) w := fun b off w => by kernel_rfl
theorem fa59_2 : ∀ b off w, (Instr.fieldAt 59 (.pointer (some ⟨b, off, none⟩)) 2).run Hfaa.prog w = .ok (.pointer (some ⟨b, off + 9, none⟩)) w := fun b off w => by kernel_rfl
theorem fa76_0 : ∀ b off w, (Instr.fieldAt 76 (.pointer (some ⟨b, off, none⟩)) 0).run Hfaa.prog w = .ok (.pointer (some ⟨b, off + 0, none⟩)) w := fun b off w => by kernel_rfl
theorem fa76_1 : ∀ b off w, (Instr.fieldAt 76 (.pointer (some ⟨b, off, none⟩)) 1).run Hfaa.prog w = .ok (.pointer (some ⟨b, off + 1, none⟩)) w := fun b off w => by kernel_rfl
theorem fa76_2 : ∀ b off w, (Instr.fieldAt 76 (.pointer (some ⟨b, off, none⟩)) 2).run Hfaa.prog w = .ok (.pointer (some ⟨b, off + 2, none⟩)) w := fun b off w => by kernel_rfl
theorem fa90_0 : ∀ b off w, (Instr.fieldAt 90 (.pointer (some ⟨b, off, none⟩)) 0).run Hfaa.prog w = .ok (.pointer (some ⟨b, off + 0, none⟩)) w := fun b off w => by kernel_rfl
theorem fa90_1 : ∀ b off w, (Instr.fieldAt 90 (.pointer (some ⟨b, off, none⟩)) 1).run Hfaa.prog w = .ok (.pointer (some ⟨b, off + 8, none⟩)) w := fun b off w => by kernel_rfl
theorem fa96_0 : ∀ b off w, (Instr.fieldAt 96 (.pointer (some ⟨b, off, none⟩)) 0).run Hfaa.prog w = .ok (.pointer (some ⟨b, off + 0, none⟩)) w := fun b off w => by kernel_rfl
theorem fa96_1 : ∀ b off w, (Instr.fieldAt 96 (.pointer (some ⟨b, off, none⟩)) 1).run Hfaa.prog w = .ok (.pointer (some ⟨b, off + 1, none⟩)) w := fun b off w => by kernel_rfl
theorem fa96_2 : ∀ b off w, (Instr.fieldAt 96 (.pointer (some ⟨b, off, none⟩)) 2).run Hfaa.prog w = .ok (.pointer (some ⟨b, off + 2, none⟩)) w := fun b off w => by kernel_rfl
theorem fa96_3 : ∀ b off w, (Instr.fieldAt 96 (.pointer (some ⟨b, off, none⟩)) 3).run Hfaa.prog w = .ok (.pointer (some ⟨b, off + 3, none⟩)) w := fun b off w => by kernel_rfl
theorem fa96_4 : ∀ b off w, (Instr.fieldAt 96 (.pointer (some ⟨b, off, none⟩)) 4).run Hfaa.prog w = .ok (.pointer (some ⟨b, off + 4, none⟩)) w := fun b off w => by kernel_rfl
theorem fa96_5 : ∀ b off w, (Instr.fieldAt 96 (.pointer (some ⟨b, off, none⟩)) 5).run Hfaa.prog w = .ok (.pointer (some ⟨b, off + 5, none⟩)) w := fun b off w => by kernel_rfl
theorem na101 : ∀ w, (isAgg 101).run Hfaa.prog w = .ok false w := fun w => by kernel_rfl
theorem na110 : ∀ w, (isAgg 110).run Hfaa.prog w = .ok false w := fun w => by kernel_rfl
theorem na227 : ∀ w, (isAgg 227).run Hfaa.prog w = .ok false w := fun w => by kernel_rfl
theorem na295 : ∀ w, (isAgg 295).run Hfaa.prog w = .ok false w := fun w => by kernel_rfl
theorem na3 : ∀ w, (isAgg 3).run Hfaa.prog w = .ok false w := fun w => by kernel_rfl
theorem na49 : ∀ w, (isAgg 49).run Hfaa.prog w = .ok false w := fun w => by kernel_rfl
theorem na57 : ∀ w, (isAgg 57).run Hfaa.prog w = .ok false w := fun w => by kernel_rfl
theorem na65 : ∀ w, (isAgg 65).run Hfaa.prog w = .ok false w := fun w => by kernel_rfl
theorem sz112 : ∀ w, (sizeOf 112).run Hfaa.prog w = .ok 4 w := fun w => by kernel_rfl
theorem sz119 : ∀ w, (sizeOf 119).run Hfaa.prog w = .ok 3 w := fun w => by kernel_rfl
theorem sz151 : ∀ w, (sizeOf 151).run Hfaa.prog w = .ok 3 w := fun w => by kernel_rfl
theorem sz175 : ∀ w, (sizeOf 175).run Hfaa.prog w = .ok 6 w := fun w => by kernel_rfl
theorem sz181 : ∀ w, (sizeOf 181).run Hfaa.prog w = .ok 2 w := fun w => by kernel_rfl
theorem sz215 : ∀ w, (sizeOf 215).run Hfaa.prog w = .ok 1445 w := fun w => by kernel_rfl
theorem sz227 : ∀ w, (sizeOf 227).run Hfaa.prog w = .ok 1 w := fun w => by kernel_rfl
theorem sz23 : ∀ w, (sizeOf 23).run Hfaa.prog w = .ok 2 w := fun w => by kernel_rfl
theorem sz259 : ∀ w, (sizeOf 259).run Hfaa.prog w = .ok 52 w := fun w => by kernel_rfl
theorem sz272 : ∀ w, (sizeOf 272).run Hfaa.prog w = .ok 4 w := fun w => by kernel_rfl
theorem sz286 : ∀ w, (sizeOf 286).run Hfaa.prog w = .ok 21 w := fun w => by kernel_rfl
theorem sz297 : ∀ w, (sizeOf 297).run Hfaa.prog w = .ok 6 w := fun w => by kernel_rfl
theorem sz3 : ∀ w, (sizeOf 3).run Hfaa.prog w = .ok 1 w := fun w => by kernel_rfl
theorem sz30 : ∀ w, (sizeOf 30).run Hfaa.prog w = .ok 1 w := fun w => by kernel_rfl
theorem sz307 : ∀ w, (sizeOf 307).run Hfaa.prog w = .ok 6 w := fun w => by kernel_rfl
theorem sz35 : ∀ w, (sizeOf 35).run Hfaa.prog w = .ok 8 w := fun w => by kernel_rfl
theorem sz355 : ∀ w, (sizeOf 355).run Hfaa.prog w = .ok 5 w := fun w => by kernel_rfl
theorem sz4 : ∀ w, (sizeOf 4).run Hfaa.prog w = .ok 1 w := fun w => by kernel_rfl
theorem sz42 : ∀ w, (sizeOf 42).run Hfaa.prog w = .ok 2 w := fun w => by kernel_rfl
theorem sz44 : ∀ w, (sizeOf 44).run Hfaa.prog w = .ok 1 w := fun w => by kernel_rfl
theorem sz5 : ∀ w, (sizeOf 5).run Hfaa.prog w = .ok 1 w := fun w => by kernel_rfl
theorem sz57 : ∀ w, (sizeOf 57).run Hfaa.prog w = .ok 1 w := fun w => by kernel_rfl
theorem sz59 : ∀ w, (sizeOf 59).run Hfaa.prog w = .ok 10 w := fun w => by kernel_rfl
theorem sz65 : ∀ w, (sizeOf 65).run Hfaa.prog w = .ok 1 w := fun w => by kernel_rfl
theorem sz76 : ∀ w, (sizeOf 76).run Hfaa.prog w = .ok 3 w := fun w => by kernel_rfl
theorem sz9 : ∀ w, (sizeOf 9).run Hfaa.prog w = .ok 1 w := fun w => by kernel_rfl
theorem sz90 : ∀ w, (sizeOf 90).run Hfaa.prog w = .ok 9 w := fun w => by kernel_rfl
theorem sz96 : ∀ w, (sizeOf 96).run Hfaa.prog w = .ok 6 w := fun w => by kernel_rfl
theorem zl109 {n : Nat} {ops : Array Oper} {ty : TypeId} {pos : String} {after : Array Edge} {d : Nat} (hn : Nat.blt d n = true) : LR Hfaa.prog n ops ⟨some d, .alloc 109, ty, pos, after, none⟩ ⟨[], [], [d]⟩ ⟨[(d, .inr (.inl (d, 0)))], [(d, pb 109 (ar U64 4 (fun _ => 0#64) ++ []))]⟩ :=
  LR_alloc (z := .agg ((arv U64 4 (fun _ => 0#64) ++ [])).toArray) (vs := (arv U64 4 (fun _ => 0#64) ++ [])) (fun w => by kernel_rfl) rfl (fun _ => all2_ar (all2_nil)) hn
theorem zl112 {n : Nat} {ops : Array Oper} {ty : TypeId} {pos : String} {after : Array Edge} {d : Nat} (hn : Nat.blt d n = true) : LR Hfaa.prog n ops ⟨some d, .alloc 112, ty, pos, after, none⟩ ⟨[], [], [d]⟩ ⟨[(d, .inr (.inl (d, 0)))], [(d, pb 112 [is (Bl false), is (I8 0), is (I16 0), is (U64 (0#64))])]⟩ :=
  LR_alloc (z := .agg #[Bl false, I8 0, I16 0, U64 (0#64)]) (vs := [Bl false, I8 0, I16 0, U64 (0#64)]) (fun w => by kernel_rfl) rfl (fun _ => ⟨rfl, rfl, rfl, rfl, trivial⟩) hn
theorem zl119 {n : Nat} {ops : Array Oper} {ty : TypeId} {pos : String} {after : Array Edge} {d : Nat} (hn : Nat.blt d n = true) : LR Hfaa.prog n ops ⟨some d, .alloc 119, ty, pos, after, none⟩ ⟨[], [], [d]⟩ ⟨[(d, .inr (.inl (d, 0)))], [(d, pb 119 [is (Bl false), big 0, big 0])]⟩ :=
  LR_alloc (z := .agg #[Bl false, Value.slice none 0 0, Value.slice none 0 0]) (vs := [Bl false, Value.slice none 0 0, Value.slice none 0 0]) (fun w => by kernel_rfl) rfl (fun _ => ⟨rfl, big_nil _, big_nil _, trivial⟩) hn
theorem zl151 {n : Nat} {ops : Array Oper} {ty : TypeId} {pos : String} {after : Array Edge} {d : Nat} (hn : Nat.blt d n = true) : LR Hfaa.prog n ops ⟨some d, .alloc 151, ty, pos, after, none⟩ ⟨[], [], [d]⟩ ⟨[(d, .inr (.inl (d, 0)))], [(d, pb 151 [is (Bl false), is (Sv ([] : List UInt8)), is (I16 0)])]⟩ :=
  LR_alloc (z := .agg #[Bl false, Sv ([] : List UInt8), I16 0]) (vs := [Bl false, Sv ([] : List UInt8), I16 0]) (fun w => by kernel_rfl) rfl (fun _ => ⟨rfl, rfl, rfl, trivial⟩) hn
theorem zl175 {n : Nat} {ops : Array Oper} {ty : TypeId} {pos : String} {after : Array Edge} {d : Nat} (hn : Nat.blt d n = true) : LR Hfaa.prog n ops ⟨some d, .alloc 175, ty, pos, after, none⟩ ⟨[], [], [d]⟩ ⟨[(d, .inr (.inl (d, 0)))], [(d, pb 175 [is (U64 (0#64)), is (Bl false), is (I8 0), is (Bl false), big 0, big 0])]⟩ :=
  LR_alloc (z := .agg #[U64 (0#64), Bl false, I8 0, Bl false, Value.slice none 0 0, Value.slice none 0 0]) (vs := [U64 (0#64), Bl false, I8 0, Bl false, Value.slice none 0 0, Value.slice none 0 0]) (fun w => by kernel_rfl) rfl (fun _ => ⟨rfl, rfl, rfl, rfl, big_nil _, big_nil _, trivial⟩) hn
theorem zl181 {n : Nat} {ops : Array Oper} {ty : TypeId} {pos : String} {after : Array Edge} {d : Nat} (hn : Nat.blt d n = true) : LR Hfaa.prog n ops ⟨some d, .alloc 181, ty, pos, after, none⟩ ⟨[], [], [d]⟩ ⟨[(d, .inr (.inl (d, 0)))], [(d, pb 181 [is (I8 0), is (Bl false)])]⟩ :=
  LR_alloc (z := .agg #[I8 0, Bl false]) (vs := [I8 0, Bl false]) (fun w => by kernel_rfl) rfl (fun _ => ⟨rfl, rfl, trivial⟩) hn
theorem zl199 {n : Nat} {ops : Array Oper} {ty : TypeId} {pos : String} {after : Array Edge} {d : Nat} (hn : Nat.blt d n = true) : LR Hfaa.prog n ops ⟨some d, .alloc 199, ty, pos, after, none⟩ ⟨[], [], [d]⟩ ⟨[(d, .inr (.inl (d, 0)))], [(d, pb 199 [is (U64 (0#64)), is (U64 (0#64)), is (U64 (0#64)), is (Bl false), is (Bl false), is (Bl false), is (U64 (0#64))])]⟩ :=
  LR_alloc (z := .agg #[U64 (0#64), U64 (0#64), U64 (0#64), Bl false, Bl false, Bl false, U64 (0#64)]) (vs := [U64 (0#64), U64 (0#64), U64 (0#64), Bl false, Bl false, Bl false, U64 (0#64)]) (fun w => by kernel_rfl) rfl (fun _ => ⟨rfl, rfl, rfl, rfl, rfl, rfl, rfl, trivial⟩) hn
theorem zl215 {n : Nat} {ops : Array Oper} {ty : TypeId} {pos : String} {after : Array Edge} {d : Nat} (hn : Nat.blt d n = true) : LR Hfaa.prog n ops ⟨some d, .alloc 215, ty, pos, after, none⟩ ⟨[], [], [d]⟩ ⟨[(d, .inr (.inl (d, 0)))], [(d, pb 215 (ar U8 1441 (fun _ => 0#8) ++ (is (I64 0) :: (is (I64 0) :: (is (I64 0) :: (is (I64 0) :: []))))))]⟩ :=
  LR_alloc (z := .agg ((arv U8 1441 (fun _ => 0#8) ++ (I64 0 :: (I64 0 :: (I64 0 :: (I64 0 :: [])))))).toArray) (vs := (arv U8 1441 (fun _ => 0#8) ++ (I64 0 :: (I64 0 :: (I64 0 :: (I64 0 :: [])))))) (fun w => by kernel_rfl) rfl (fun _ => all2_ar (⟨rfl, ⟨rfl, ⟨rfl, ⟨rfl, all2_nil⟩⟩⟩⟩)) hn
theorem zl226 {n : Nat} {ops : Array Oper} {ty : TypeId} {pos : String} {after : Array Edge} {d : Nat} (hn : Nat.blt d n = true) : LR Hfaa.prog n ops ⟨some d, .alloc 226, ty, pos, after, none⟩ ⟨[], [], [d]⟩ ⟨[(d, .inr (.inl (d, 0)))], [(d, pb 226 (ar U8 16 (fun _ => 0#8) ++ []))]⟩ :=
  LR_alloc (z := .agg ((arv U8 16 (fun _ => 0#8) ++ [])).toArray) (vs := (arv U8 16 (fun _ => 0#8) ++ [])) (fun w => by kernel_rfl) rfl (fun _ => all2_ar (all2_nil)) hn
theorem zl23 {n : Nat} {ops : Array Oper} {ty : TypeId} {pos : String} {after : Array Edge} {d : Nat} (hn : Nat.blt d n = true) : LR Hfaa.prog n ops ⟨some d, .alloc 23, ty, pos, after, none⟩ ⟨[], [], [d]⟩ ⟨[(d, .inr (.inl (d, 0)))], [(d, pb 23 [is (U8 (0#8)), is (U8 (0#8))])]⟩ :=
  LR_alloc (z := .agg #[U8 (0#8), U8 (0#8)]) (vs := [U8 (0#8), U8 (0#8)]) (fun w => by kernel_rfl) rfl (fun _ => ⟨rfl, rfl, trivial⟩) hn
theorem zl261 {n : Nat} {ops : Array Oper} {ty : TypeId} {pos : String} {after : Array Edge} {d : Nat} (hn : Nat.blt d n = true) : LR Hfaa.prog n ops ⟨some d, .alloc 261, ty, pos, after, none⟩ ⟨[], [], [d]⟩ ⟨[(d, .inr (.inl (d, 0)))], [(d, pb 261 (is (I64 0) :: (ar U64 52 (fun _ => 0#64) ++ [])))]⟩ :=
  LR_alloc (z := .agg ((I64 0 :: (arv U64 52 (fun _ => 0#64) ++ []))).toArray) (vs := (I64 0 :: (arv U64 52 (fun _ => 0#64) ++ []))) (fun w => by kernel_rfl) rfl (fun _ => ⟨rfl, all2_ar (all2_nil)⟩) hn
theorem zl269 {n : Nat} {ops : Array Oper} {ty : TypeId} {pos : String} {after : Array Edge} {d : Nat} (hn : Nat.blt d n = true) : LR Hfaa.prog n ops ⟨some d, .alloc 269, ty, pos, after, none⟩ ⟨[], [], [d]⟩ ⟨[(d, .inr (.inl (d, 0)))], [(d, pb 269 (ar U8 20 (fun _ => 0#8) ++ []))]⟩ :=
  LR_alloc (z := .agg ((arv U8 20 (fun _ => 0#8) ++ [])).toArray) (vs := (arv U8 20 (fun _ => 0#8) ++ [])) (fun w => by kernel_rfl) rfl (fun _ => all2_ar (all2_nil)) hn
theorem zl272 {n : Nat} {ops : Array Oper} {ty : TypeId} {pos : String} {after : Array Edge} {d : Nat} (hn : Nat.blt d n = true) : LR Hfaa.prog n ops ⟨some d, .alloc 272, ty, pos, after, none⟩ ⟨[], [], [d]⟩ ⟨[(d, .inr (.inl (d, 0)))], [(d, pb 272 [is (Bl false), is (I16 0), is (U64 (0#64)), is (U64 (0#64))])]⟩ :=
  LR_alloc (z := .agg #[Bl false, I16 0, U64 (0#64), U64 (0#64)]) (vs := [Bl false, I16 0, U64 (0#64), U64 (0#64)]) (fun w => by kernel_rfl) rfl (fun _ => ⟨rfl, rfl, rfl, rfl, trivial⟩) hn
theorem zl282 {n : Nat} {ops : Array Oper} {ty : TypeId} {pos : String} {after : Array Edge} {d : Nat} (hn : Nat.blt d n = true) : LR Hfaa.prog n ops ⟨some d, .alloc 282, ty, pos, after, none⟩ ⟨[], [], [d]⟩ ⟨[(d, .inr (.inl (d, 0)))], [(d, pb 282 (ar U8 4096 (fun _ => 0#8) ++ []))]⟩ :=
  LR_alloc (z := .agg ((arv U8 4096 (fun _ => 0#8) ++ [])).toArray) (vs := (arv U8 4096 (fun _ => 0#8) ++ [])) (fun w => by kernel_rfl) rfl (fun _ => all2_ar (all2_nil)) hn
theorem zl286 {n : Nat} {ops : Array Oper} {ty : TypeId} {pos : String} {after : Array Edge} {d : Nat} (hn : Nat.blt d n = true) : LR Hfaa.prog n ops ⟨some d, .alloc 286, ty, pos, after, none⟩ ⟨[], [], [d]⟩ ⟨[(d, .inr (.inl (d, 0)))], [(d, pb 286 (ar U64 20 (fun _ => 0#64) ++ (is (I64 0) :: [])))]⟩ :=
  LR_alloc (z := .agg ((arv U64 20 (fun _ => 0#64) ++ (I64 0 :: []))).toArray) (vs := (arv U64 20 (fun _ => 0#64) ++ (I64 0 :: []))) (fun w => by kernel_rfl) rfl (fun _ => all2_ar (⟨rfl, all2_nil⟩)) hn
theorem zl290 {n : Nat} {ops : Array Oper} {ty : TypeId} {pos : String} {after : Array Edge} {d : Nat} (hn : Nat.blt d n = true) : LR Hfaa.prog n ops ⟨some d, .alloc 290, ty, pos, after, none⟩ ⟨[], [], [d]⟩ ⟨[(d, .inr (.inl (d, 0)))], [(d, pb 290 (ar U8 1442 (fun _ => 0#8) ++ []))]⟩ :=
  LR_alloc (z := .agg ((arv U8 1442 (fun _ => 0#8) ++ [])).toArray) (vs := (arv U8 1442 (fun _ => 0#8) ++ [])) (fun w => by kernel_rfl) rfl (fun _ => all2_ar (all2_nil)) hn
theorem zl297 {n : Nat} {ops : Array Oper} {ty : TypeId} {pos : String} {after : Array Edge} {d : Nat} (hn : Nat.blt d n = true) : LR Hfaa.prog n ops ⟨some d, .alloc 297, ty, pos, after, none⟩ ⟨[], [], [d]⟩ ⟨[(d, .inr (.inl (d, 0)))], [(d, pb 297 [is (U8 (0#8)), is (Bl false), is (Sv ([] : List UInt8)), is (I16 0), is (I64 0), is (I32 0)])]⟩ :=
  LR_alloc (z := .agg #[U8 (0#8), Bl false, Sv ([] : List UInt8), I16 0, I64 0, I32 0]) (vs := [U8 (0#8), Bl false, Sv ([] : List UInt8), I16 0, I64 0, I32 0]) (fun w => by kernel_rfl) rfl (fun _ => ⟨rfl, rfl, rfl, rfl, rfl, rfl, trivial⟩) hn
theorem zl307 {n : Nat} {ops : Array Oper} {ty : TypeId} {pos : String} {after : Array Edge} {d : Nat} (hn : Nat.blt d n = true) : LR Hfaa.prog n ops ⟨some d, .alloc 307, ty, pos, after, none⟩ ⟨[], [], [d]⟩ ⟨[(d, .inr (.inl (d, 0)))], [(d, pb 307 [is (U8 (0#8)), is (Bl false), is (Sv ([] : List UInt8)), is (I16 0), is (I64 0), is (I32 0)])]⟩ :=
  LR_alloc (z := .agg #[U8 (0#8), Bl false, Sv ([] : List UInt8), I16 0, I64 0, I32 0]) (vs := [U8 (0#8), Bl false, Sv ([] : List UInt8), I16 0, I64 0, I32 0]) (fun w => by kernel_rfl) rfl (fun _ => ⟨rfl, rfl, rfl, rfl, rfl, rfl, trivial⟩) hn
theorem zl340 {n : Nat} {ops : Array Oper} {ty : TypeId} {pos : String} {after : Array Edge} {d : Nat} (hn : Nat.blt d n = true) : LR Hfaa.prog n ops ⟨some d, .alloc 340, ty, pos, after, none⟩ ⟨[], [], [d]⟩ ⟨[(d, .inr (.inl (d, 0)))], [(d, pb 340 (ar U64 18 (fun _ => 0#64) ++ []))]⟩ :=
  LR_alloc (z := .agg ((arv U64 18 (fun _ => 0#64) ++ [])).toArray) (vs := (arv U64 18 (fun _ => 0#64) ++ [])) (fun w => by kernel_rfl) rfl (fun _ => all2_ar (all2_nil)) hn
theorem zl342 {n : Nat} {ops : Array Oper} {ty : TypeId} {pos : String} {after : Array Edge} {d : Nat} (hn : Nat.blt d n = true) : LR Hfaa.prog n ops ⟨some d, .alloc 342, ty, pos, after, none⟩ ⟨[], [], [d]⟩ ⟨[(d, .inr (.inl (d, 0)))], [(d, pb 342 (ar U8 2048 (fun _ => 0#8) ++ []))]⟩ :=
  LR_alloc (z := .agg ((arv U8 2048 (fun _ => 0#8) ++ [])).toArray) (vs := (arv U8 2048 (fun _ => 0#8) ++ [])) (fun w => by kernel_rfl) rfl (fun _ => all2_ar (all2_nil)) hn
theorem zl353 {n : Nat} {ops : Array Oper} {ty : TypeId} {pos : String} {after : Array Edge} {d : Nat} (hn : Nat.blt d n = true) : LR Hfaa.prog n ops ⟨some d, .alloc 353, ty, pos, after, none⟩ ⟨[], [], [d]⟩ ⟨[(d, .inr (.inl (d, 0)))], [(d, pb 353 (ar U8 40 (fun _ => 0#8) ++ []))]⟩ :=
  LR_alloc (z := .agg ((arv U8 40 (fun _ => 0#8) ++ [])).toArray) (vs := (arv U8 40 (fun _ => 0#8) ++ [])) (fun w => by kernel_rfl) rfl (fun _ => all2_ar (all2_nil)) hn
theorem zl355 {n : Nat} {ops : Array Oper} {ty : TypeId} {pos : String} {after : Array Edge} {d : Nat} (hn : Nat.blt d n = true) : LR Hfaa.prog n ops ⟨some d, .alloc 355, ty, pos, after, none⟩ ⟨[], [], [d]⟩ ⟨[(d, .inr (.inl (d, 0)))], [(d, pb 355 [is (Bl false), is (Bl false), ns U8 (true, 0, fun _ => 0#8), is (I64 0), is (I64 0)])]⟩ :=
  LR_alloc (z := .agg #[Bl false, Bl false, Value.slice none 0 0, I64 0, I64 0]) (vs := [Bl false, Bl false, Value.slice none 0 0, I64 0, I64 0]) (fun w => by kernel_rfl) rfl (fun _ => ⟨rfl, rfl, ns_nil _ _, rfl, rfl, trivial⟩) hn
theorem zl42 {n : Nat} {ops : Array Oper} {ty : TypeId} {pos : String} {after : Array Edge} {d : Nat} (hn : Nat.blt d n = true) : LR Hfaa.prog n ops ⟨some d, .alloc 42, ty, pos, after, none⟩ ⟨[], [], [d]⟩ ⟨[(d, .inr (.inl (d, 0)))], [(d, pb 42 [is (U64 (0#64)), is (U64 (0#64))])]⟩ :=
  LR_alloc (z := .agg #[U64 (0#64), U64 (0#64)]) (vs := [U64 (0#64), U64 (0#64)]) (fun w => by kernel_rfl) rfl (fun _ => ⟨rfl, rfl, trivial⟩) hn
theorem zl47 {n : Nat} {ops : Array Oper} {ty : TypeId} {pos : String} {after : Array Edge} {d : Nat} (hn : Nat.blt d n = true) : LR Hfaa.prog n ops ⟨some d, .alloc 47, ty, pos, after, none⟩ ⟨[], [], [d]⟩ ⟨[(d, .inr (.inl (d, 0)))], [(d, pb 47 (arp 696 (fun _ => (0#64, 0#64)) ++ (ar I16 696 (fun _ => 0) ++ [])))]⟩ :=
  LR_alloc (z := .agg ((arpv 696 (fun _ => (0#64, 0#64)) ++ (arv I16 696 (fun _ => 0) ++ []))).toArray) (vs := (arpv 696 (fun _ => (0#64, 0#64)) ++ (arv I16 696 (fun _ => 0) ++ []))) (fun w => by kernel_rfl) rfl (fun _ => all2_arp (all2_ar (all2_nil))) hn
theorem zl59 {n : Nat} {ops : Array Oper} {ty : TypeId} {pos : String} {after : Array Edge} {d : Nat} (hn : Nat.blt d n = true) : LR Hfaa.prog n ops ⟨some d, .alloc 59, ty, pos, after, none⟩ ⟨[], [], [d]⟩ ⟨[(d, .inr (.inl (d, 0)))], [(d, pb 59 (is (Bl false) :: (ar U64 8 (fun _ => 0#64) ++ (ns Sv ((true, 0, fun _ => ([] : List UInt8))) :: []))))]⟩ :=
  LR_alloc (z := .agg ((Bl false :: (arv U64 8 (fun _ => 0#64) ++ (Value.slice none 0 0 :: [])))).toArray) (vs := (Bl false :: (arv U64 8 (fun _ => 0#64) ++ (Value.slice none 0 0 :: [])))) (fun w => by kernel_rfl) rfl (fun _ => ⟨rfl, all2_ar (⟨ns_nil _ _, all2_nil⟩)⟩) hn
theorem zl76 {n : Nat} {ops : Array Oper} {ty : TypeId} {pos : String} {after : Array Edge} {d : Nat} (hn : Nat.blt d n = true) : LR Hfaa.prog n ops ⟨some d, .alloc 76, ty, pos, after, none⟩ ⟨[], [], [d]⟩ ⟨[(d, .inr (.inl (d, 0)))], [(d, pb 76 [is (Bl false), is (Sv ([] : List UInt8)), is (I16 0)])]⟩ :=
  LR_alloc (z := .agg #[Bl false, Sv ([] : List UInt8), I16 0]) (vs := [Bl false, Sv ([] : List UInt8), I16 0]) (fun w => by kernel_rfl) rfl (fun _ => ⟨rfl, rfl, rfl, trivial⟩) hn
theorem zl90 {n : Nat} {ops : Array Oper} {ty : TypeId} {pos : String} {after : Array Edge} {d : Nat} (hn : Nat.blt d n = true) : LR Hfaa.prog n ops ⟨some d, .alloc 90, ty, pos, after, none⟩ ⟨[], [], [d]⟩ ⟨[(d, .inr (.inl (d, 0)))], [(d, pb 90 (ar U64 8 (fun _ => 0#64) ++ (ns Sv ((true, 0, fun _ => ([] : List UInt8))) :: [])))]⟩ :=
  LR_alloc (z := .agg ((arv U64 8 (fun _ => 0#64) ++ (Value.slice none 0 0 :: []))).toArray) (vs := (arv U64 8 (fun _ => 0#64) ++ (Value.slice none 0 0 :: []))) (fun w => by kernel_rfl) rfl (fun _ => all2_ar (⟨ns_nil _ _, all2_nil⟩)) hn
theorem zl96 {n : Nat} {ops : Array Oper} {ty : TypeId} {pos : String} {after : Array Edge} {d : Nat} (hn : Nat.blt d n = true) : LR Hfaa.prog n ops ⟨some d, .alloc 96, ty, pos, after, none⟩ ⟨[], [], [d]⟩ ⟨[(d, .inr (.inl (d, 0)))], [(d, pb 96 [is (U8 (0#8)), is (U8 (0#8)), is (U8 (0#8)), is (U8 (0#8)), is (U64 (0#64)), is (Sv ([] : List UInt8))])]⟩ :=
  LR_alloc (z := .agg #[U8 (0#8), U8 (0#8), U8 (0#8), U8 (0#8), U64 (0#64), Sv ([] : List UInt8)]) (vs := [U8 (0#8), U8 (0#8), U8 (0#8), U8 (0#8), U64 (0#64), Sv ([] : List UInt8)]) (fun w => by kernel_rfl) rfl (fun _ => ⟨rfl, rfl, rfl, rfl, rfl, rfl, trivial⟩) hn
end Go.Proofs.YfwaawGreat

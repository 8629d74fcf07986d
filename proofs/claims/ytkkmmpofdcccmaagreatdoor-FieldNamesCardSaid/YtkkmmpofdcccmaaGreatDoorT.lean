/- The types of the program as Lean types, how they lie in cells, and what == says of them; by a program of this project (gen.py). -/
import Derived.Test.YtkkmmpofdcccmaaGreatDoorO
import Derived.Test.YtkkmmpofdcccmaaGreatDoorProg
set_option linter.unusedVariables false
set_option linter.unusedSimpArgs false
namespace Go.Proofs.YtkkmmpofdcccmaaGreatDoor
open E Go.RowKit
theorem infoT3_is : (Tryz.prog.info? 3).isSome = true := by kernel_rfl
noncomputable def infoT3_v : TypeInfo := (Tryz.prog.info? 3).get infoT3_is
theorem infoT3 : Tryz.prog.info? 3 = some infoT3_v := (Option.some_get _).symm
theorem infoT5_is : (Tryz.prog.info? 5).isSome = true := by kernel_rfl
noncomputable def infoT5_v : TypeInfo := (Tryz.prog.info? 5).get infoT5_is
theorem infoT5 : Tryz.prog.info? 5 = some infoT5_v := (Option.some_get _).symm
theorem infoT9_is : (Tryz.prog.info? 9).isSome = true := by kernel_rfl
noncomputable def infoT9_v : TypeInfo := (Tryz.prog.info? 9).get infoT9_is
theorem infoT9 : Tryz.prog.info? 9 = some infoT9_v := (Option.some_get _).symm
structure S_api_Addr where
  f_V : Int
  f_B : (Vector Int 16)
  deriving DecidableEq, Inhabited
def c_api_Addr : Cd S_api_Addr := ⟨17, fun x => Cd.cs (cInt .i64) x.f_V ++ (Cd.cs (cVec (cInt .u8) 16 (by decide)) x.f_B ++ []), fun x => by simp only [List.length_append, Cd.len, List.length_nil] <;> rfl, fun x v hv => by
  simp only [List.mem_append, List.not_mem_nil, or_false] at hv
  rcases hv with hv | hv
  all_goals exact Cd.one _ _ _ hv, by decide⟩
def ok_api_Addr (x : S_api_Addr) : Prop := (fun n : Int => (Lit.int .i64 n).wf = true) x.f_V ∧ (fun v : (Vector Int 16) => ∀ x ∈ v.toList, (fun n : Int => (Lit.int .u8 n).wf = true) x) x.f_B
theorem c_api_Addr_f_V (x : S_api_Addr) : Lens (c_api_Addr.cs x) 0 (cInt .i64) x.f_V (fun z => c_api_Addr.cs { x with f_V := z }) :=
  ⟨[], Cd.cs (cVec (cInt .u8) 16 (by decide)) x.f_B ++ [], by simp [c_api_Addr], by simp only [List.length_append, Cd.len, List.length_nil] <;> rfl, fun z => by simp [c_api_Addr]⟩
theorem c_api_Addr_f_B (x : S_api_Addr) : Lens (c_api_Addr.cs x) 1 (cVec (cInt .u8) 16 (by decide)) x.f_B (fun z => c_api_Addr.cs { x with f_B := z }) :=
  ⟨Cd.cs (cInt .i64) x.f_V ++ [], [], by simp [c_api_Addr], by simp only [List.length_append, Cd.len, List.length_nil] <;> rfl, fun z => by simp [c_api_Addr]⟩
theorem eq_api_Addr_25 : Eqs Tryz.prog 25 c_api_Addr true 2 := fun d hd x y w => by
  obtain ⟨d, rfl⟩ : ∃ e, d = e + 1 := ⟨d - 1, by omega⟩
  refine (run_eq_struct (xs := (c_api_Addr.cs x).toArray) (ys := (c_api_Addr.cs y).toArray) Tryz.underlying25 Tryz.stoodInHeld25).trans ?_
  refine Eq.trans (eqf_cons (c_api_Addr_f_V x) (c_api_Addr_f_V y) (by rfl) (by rfl) Tryz.isAgg3 Tryz.sizeOf3 (.inr rfl) (eqs_int Tryz.underlying3) (by omega) (eqf_cons (c_api_Addr_f_B x) (c_api_Addr_f_B y) (by rfl) (by rfl) Tryz.isAgg23 Tryz.sizeOf23 (.inl rfl) (eqs_vec Tryz.underlying23 infoT5 Tryz.sizeOf5 Tryz.isAgg5 (.inr rfl) (eqs_int Tryz.underlying5)) (by omega) eqf_nil)) ?_
  congr 1
  cases x; cases y
  rw [Bool.eq_iff_iff]; simp
theorem opn_api_Addr_25 : Opn Tryz.prog 25 c_api_Addr ok_api_Addr := fun enc w base spare held fuel cs d ps hd => by
  cases fuel with
  | zero => exact (opn_zero hd).elim
  | succ fuel =>
    obtain ⟨hlen, hf⟩ := opn_fields Tryz.underlying25 hd
    rw [show Tryz.prog.cellsOf 25 = 17 from by kernel_rfl] at hlen
    obtain ⟨d0, p0, h0⟩ : ∃ d' p', DataW.trod enc Tryz.prog w base spare held fuel 3 ((cs.drop 0).take (Tryz.prog.cellsOf 3)) = some (d', p') := hf 0 _ rfl
    obtain ⟨x0, e0, o0⟩ := (opn_int Tryz.underlying3) enc w base spare held fuel _ _ _ h0
    rw [show Tryz.prog.cellsOf 3 = 1 from by kernel_rfl] at e0
    obtain ⟨d1, p1, h1⟩ : ∃ d' p', DataW.trod enc Tryz.prog w base spare held fuel 23 ((cs.drop 1).take (Tryz.prog.cellsOf 23)) = some (d', p') := hf 1 _ rfl
    obtain ⟨x1, e1, o1⟩ := (opn_vec Tryz.underlying23 (by kernel_rfl) (by kernel_rfl) (opn_int Tryz.underlying5)) enc w base spare held fuel _ _ _ h1
    rw [show Tryz.prog.cellsOf 23 = 16 from by kernel_rfl] at e1
    refine ⟨⟨x0, x1⟩, ?_, o0, o1⟩
    show cs = Cd.cs (cInt .i64) x0 ++ (Cd.cs (cVec (cInt .u8) 16 (by decide)) x1 ++ [])
    rw [← e0, ← e1]
    exact (split_cons (l := cs) (o := 0) (k := 1) (split_cons (l := cs) (o := 1) (k := 16) (split_nil (l := cs) (o := 17) (by omega))))
theorem places_api_Addr_25 : ∀ w, ((#[{ name := "V", type := 3, offset := 0, embedded := false, tag := "", pkgPath := "", byteOffset := 0 }, { name := "B", type := 23, offset := 1, embedded := false, tag := "", pkgPath := "", byteOffset := 8 }] : Array Field).mapM fun f => (do pure (f.offset, ← sizeOf f.type) : Sem (Nat × Nat))).run Tryz.prog w = .ok #[(0, 1), (1, 16)] w := fun w => by
  simp [Tryz.sizeOf3 w, Tryz.sizeOf23 w]
structure S_api_Endpoint where
  f_A : S_api_Addr
  f_Port : Int
  deriving DecidableEq, Inhabited
def c_api_Endpoint : Cd S_api_Endpoint := ⟨18, fun x => Cd.cs c_api_Addr x.f_A ++ (Cd.cs (cInt .i64) x.f_Port ++ []), fun x => by simp only [List.length_append, Cd.len, List.length_nil] <;> rfl, fun x v hv => by
  simp only [List.mem_append, List.not_mem_nil, or_false] at hv
  rcases hv with hv | hv
  all_goals exact Cd.one _ _ _ hv, by decide⟩
def ok_api_Endpoint (x : S_api_Endpoint) : Prop := ok_api_Addr x.f_A ∧ (fun n : Int => (Lit.int .i64 n).wf = true) x.f_Port
theorem c_api_Endpoint_f_A (x : S_api_Endpoint) : Lens (c_api_Endpoint.cs x) 0 c_api_Addr x.f_A (fun z => c_api_Endpoint.cs { x with f_A := z }) :=
  ⟨[], Cd.cs (cInt .i64) x.f_Port ++ [], by simp [c_api_Endpoint], by simp only [List.length_append, Cd.len, List.length_nil] <;> rfl, fun z => by simp [c_api_Endpoint]⟩
theorem c_api_Endpoint_f_Port (x : S_api_Endpoint) : Lens (c_api_Endpoint.cs x) 17 (cInt .i64) x.f_Port (fun z => c_api_Endpoint.cs { x with f_Port := z }) :=
  ⟨Cd.cs c_api_Addr x.f_A ++ [], [], by simp [c_api_Endpoint], by simp only [List.length_append, Cd.len, List.length_nil] <;> rfl, fun z => by simp [c_api_Endpoint]⟩
theorem eq_api_Endpoint_27 : Eqs Tryz.prog 27 c_api_Endpoint true 3 := fun d hd x y w => by
  obtain ⟨d, rfl⟩ : ∃ e, d = e + 1 := ⟨d - 1, by omega⟩
  refine (run_eq_struct (xs := (c_api_Endpoint.cs x).toArray) (ys := (c_api_Endpoint.cs y).toArray) Tryz.underlying27 Tryz.stoodInHeld27).trans ?_
  refine Eq.trans (eqf_cons (c_api_Endpoint_f_A x) (c_api_Endpoint_f_A y) (by rfl) (by rfl) Tryz.isAgg25 Tryz.sizeOf25 (.inl rfl) (eq_api_Addr_25) (by omega) (eqf_cons (c_api_Endpoint_f_Port x) (c_api_Endpoint_f_Port y) (by rfl) (by rfl) Tryz.isAgg3 Tryz.sizeOf3 (.inr rfl) (eqs_int Tryz.underlying3) (by omega) eqf_nil)) ?_
  congr 1
  cases x; cases y
  rw [Bool.eq_iff_iff]; simp
theorem opn_api_Endpoint_27 : Opn Tryz.prog 27 c_api_Endpoint ok_api_Endpoint := fun enc w base spare held fuel cs d ps hd => by
  cases fuel with
  | zero => exact (opn_zero hd).elim
  | succ fuel =>
    obtain ⟨hlen, hf⟩ := opn_fields Tryz.underlying27 hd
    rw [show Tryz.prog.cellsOf 27 = 18 from by kernel_rfl] at hlen
    obtain ⟨d0, p0, h0⟩ : ∃ d' p', DataW.trod enc Tryz.prog w base spare held fuel 25 ((cs.drop 0).take (Tryz.prog.cellsOf 25)) = some (d', p') := hf 0 _ rfl
    obtain ⟨x0, e0, o0⟩ := (opn_api_Addr_25) enc w base spare held fuel _ _ _ h0
    rw [show Tryz.prog.cellsOf 25 = 17 from by kernel_rfl] at e0
    obtain ⟨d1, p1, h1⟩ : ∃ d' p', DataW.trod enc Tryz.prog w base spare held fuel 3 ((cs.drop 17).take (Tryz.prog.cellsOf 3)) = some (d', p') := hf 1 _ rfl
    obtain ⟨x1, e1, o1⟩ := (opn_int Tryz.underlying3) enc w base spare held fuel _ _ _ h1
    rw [show Tryz.prog.cellsOf 3 = 1 from by kernel_rfl] at e1
    refine ⟨⟨x0, x1⟩, ?_, o0, o1⟩
    show cs = Cd.cs c_api_Addr x0 ++ (Cd.cs (cInt .i64) x1 ++ [])
    rw [← e0, ← e1]
    exact (split_cons (l := cs) (o := 0) (k := 17) (split_cons (l := cs) (o := 17) (k := 1) (split_nil (l := cs) (o := 18) (by omega))))
theorem places_api_Endpoint_27 : ∀ w, ((#[{ name := "A", type := 25, offset := 0, embedded := false, tag := "", pkgPath := "", byteOffset := 0 }, { name := "Port", type := 3, offset := 17, embedded := false, tag := "", pkgPath := "", byteOffset := 24 }] : Array Field).mapM fun f => (do pure (f.offset, ← sizeOf f.type) : Sem (Nat × Nat))).run Tryz.prog w = .ok #[(0, 17), (17, 1)] w := fun w => by
  simp [Tryz.sizeOf25 w, Tryz.sizeOf3 w]
structure S_api_Item where
  f_Kind : Int
  f_Bytes : Hd
  f_From : S_api_Endpoint
  f_Result : Hd
  f_Ok : Bool
  f_Key : (Vector Int 32)
  f_Local : Int
  f_Remote : Int
  f_Next : Int
  deriving DecidableEq, Inhabited
def c_api_Item : Cd S_api_Item := ⟨57, fun x => Cd.cs (cInt .i64) x.f_Kind ++ (Cd.cs cHd x.f_Bytes ++ (Cd.cs c_api_Endpoint x.f_From ++ (Cd.cs cHd x.f_Result ++ (Cd.cs cBool x.f_Ok ++ (Cd.cs (cVec (cInt .u8) 32 (by decide)) x.f_Key ++ (Cd.cs (cInt .u32) x.f_Local ++ (Cd.cs (cInt .u32) x.f_Remote ++ (Cd.cs (cInt .u64) x.f_Next ++ [])))))))), fun x => by simp only [List.length_append, Cd.len, List.length_nil] <;> rfl, fun x v hv => by
  simp only [List.mem_append, List.not_mem_nil, or_false] at hv
  rcases hv with hv | hv | hv | hv | hv | hv | hv | hv | hv
  all_goals exact Cd.one _ _ _ hv, by decide⟩
def ok_api_Item (x : S_api_Item) : Prop := (fun n : Int => (Lit.int .i64 n).wf = true) x.f_Kind ∧ (fun _ : Hd => True) x.f_Bytes ∧ ok_api_Endpoint x.f_From ∧ (fun _ : Hd => True) x.f_Result ∧ (fun _ : Bool => True) x.f_Ok ∧ (fun v : (Vector Int 32) => ∀ x ∈ v.toList, (fun n : Int => (Lit.int .u8 n).wf = true) x) x.f_Key ∧ (fun n : Int => (Lit.int .u32 n).wf = true) x.f_Local ∧ (fun n : Int => (Lit.int .u32 n).wf = true) x.f_Remote ∧ (fun n : Int => (Lit.int .u64 n).wf = true) x.f_Next
theorem c_api_Item_f_Kind (x : S_api_Item) : Lens (c_api_Item.cs x) 0 (cInt .i64) x.f_Kind (fun z => c_api_Item.cs { x with f_Kind := z }) :=
  ⟨[], Cd.cs cHd x.f_Bytes ++ (Cd.cs c_api_Endpoint x.f_From ++ (Cd.cs cHd x.f_Result ++ (Cd.cs cBool x.f_Ok ++ (Cd.cs (cVec (cInt .u8) 32 (by decide)) x.f_Key ++ (Cd.cs (cInt .u32) x.f_Local ++ (Cd.cs (cInt .u32) x.f_Remote ++ (Cd.cs (cInt .u64) x.f_Next ++ []))))))), by simp [c_api_Item], by simp only [List.length_append, Cd.len, List.length_nil] <;> rfl, fun z => by simp [c_api_Item]⟩
theorem c_api_Item_f_Bytes (x : S_api_Item) : Lens (c_api_Item.cs x) 1 cHd x.f_Bytes (fun z => c_api_Item.cs { x with f_Bytes := z }) :=
  ⟨Cd.cs (cInt .i64) x.f_Kind ++ [], Cd.cs c_api_Endpoint x.f_From ++ (Cd.cs cHd x.f_Result ++ (Cd.cs cBool x.f_Ok ++ (Cd.cs (cVec (cInt .u8) 32 (by decide)) x.f_Key ++ (Cd.cs (cInt .u32) x.f_Local ++ (Cd.cs (cInt .u32) x.f_Remote ++ (Cd.cs (cInt .u64) x.f_Next ++ [])))))), by simp [c_api_Item], by simp only [List.length_append, Cd.len, List.length_nil] <;> rfl, fun z => by simp [c_api_Item]⟩
theorem c_api_Item_f_From (x : S_api_Item) : Lens (c_api_Item.cs x) 2 c_api_Endpoint x.f_From (fun z => c_api_Item.cs { x with f_From := z }) :=
  ⟨Cd.cs (cInt .i64) x.f_Kind ++ (Cd.cs cHd x.f_Bytes ++ []), Cd.cs cHd x.f_Result ++ (Cd.cs cBool x.f_Ok ++ (Cd.cs (cVec (cInt .u8) 32 (by decide)) x.f_Key ++ (Cd.cs (cInt .u32) x.f_Local ++ (Cd.cs (cInt .u32) x.f_Remote ++ (Cd.cs (cInt .u64) x.f_Next ++ []))))), by simp [c_api_Item], by simp only [List.length_append, Cd.len, List.length_nil] <;> rfl, fun z => by simp [c_api_Item]⟩
theorem c_api_Item_f_Result (x : S_api_Item) : Lens (c_api_Item.cs x) 20 cHd x.f_Result (fun z => c_api_Item.cs { x with f_Result := z }) :=
  ⟨Cd.cs (cInt .i64) x.f_Kind ++ (Cd.cs cHd x.f_Bytes ++ (Cd.cs c_api_Endpoint x.f_From ++ [])), Cd.cs cBool x.f_Ok ++ (Cd.cs (cVec (cInt .u8) 32 (by decide)) x.f_Key ++ (Cd.cs (cInt .u32) x.f_Local ++ (Cd.cs (cInt .u32) x.f_Remote ++ (Cd.cs (cInt .u64) x.f_Next ++ [])))), by simp [c_api_Item], by simp only [List.length_append, Cd.len, List.length_nil] <;> rfl, fun z => by simp [c_api_Item]⟩
theorem c_api_Item_f_Ok (x : S_api_Item) : Lens (c_api_Item.cs x) 21 cBool x.f_Ok (fun z => c_api_Item.cs { x with f_Ok := z }) :=
  ⟨Cd.cs (cInt .i64) x.f_Kind ++ (Cd.cs cHd x.f_Bytes ++ (Cd.cs c_api_Endpoint x.f_From ++ (Cd.cs cHd x.f_Result ++ []))), Cd.cs (cVec (cInt .u8) 32 (by decide)) x.f_Key ++ (Cd.cs (cInt .u32) x.f_Local ++ (Cd.cs (cInt .u32) x.f_Remote ++ (Cd.cs (cInt .u64) x.f_Next ++ []))), by simp [c_api_Item], by simp only [List.length_append, Cd.len, List.length_nil] <;> rfl, fun z => by simp [c_api_Item]⟩
theorem c_api_Item_f_Key (x : S_api_Item) : Lens (c_api_Item.cs x) 22 (cVec (cInt .u8) 32 (by decide)) x.f_Key (fun z => c_api_Item.cs { x with f_Key := z }) :=
  ⟨Cd.cs (cInt .i64) x.f_Kind ++ (Cd.cs cHd x.f_Bytes ++ (Cd.cs c_api_Endpoint x.f_From ++ (Cd.cs cHd x.f_Result ++ (Cd.cs cBool x.f_Ok ++ [])))), Cd.cs (cInt .u32) x.f_Local ++ (Cd.cs (cInt .u32) x.f_Remote ++ (Cd.cs (cInt .u64) x.f_Next ++ [])), by simp [c_api_Item], by simp only [List.length_append, Cd.len, List.length_nil] <;> rfl, fun z => by simp [c_api_Item]⟩
theorem c_api_Item_f_Local (x : S_api_Item) : Lens (c_api_Item.cs x) 54 (cInt .u32) x.f_Local (fun z => c_api_Item.cs { x with f_Local := z }) :=
  ⟨Cd.cs (cInt .i64) x.f_Kind ++ (Cd.cs cHd x.f_Bytes ++ (Cd.cs c_api_Endpoint x.f_From ++ (Cd.cs cHd x.f_Result ++ (Cd.cs cBool x.f_Ok ++ (Cd.cs (cVec (cInt .u8) 32 (by decide)) x.f_Key ++ []))))), Cd.cs (cInt .u32) x.f_Remote ++ (Cd.cs (cInt .u64) x.f_Next ++ []), by simp [c_api_Item], by simp only [List.length_append, Cd.len, List.length_nil] <;> rfl, fun z => by simp [c_api_Item]⟩
theorem c_api_Item_f_Remote (x : S_api_Item) : Lens (c_api_Item.cs x) 55 (cInt .u32) x.f_Remote (fun z => c_api_Item.cs { x with f_Remote := z }) :=
  ⟨Cd.cs (cInt .i64) x.f_Kind ++ (Cd.cs cHd x.f_Bytes ++ (Cd.cs c_api_Endpoint x.f_From ++ (Cd.cs cHd x.f_Result ++ (Cd.cs cBool x.f_Ok ++ (Cd.cs (cVec (cInt .u8) 32 (by decide)) x.f_Key ++ (Cd.cs (cInt .u32) x.f_Local ++ [])))))), Cd.cs (cInt .u64) x.f_Next ++ [], by simp [c_api_Item], by simp only [List.length_append, Cd.len, List.length_nil] <;> rfl, fun z => by simp [c_api_Item]⟩
theorem c_api_Item_f_Next (x : S_api_Item) : Lens (c_api_Item.cs x) 56 (cInt .u64) x.f_Next (fun z => c_api_Item.cs { x with f_Next := z }) :=
  ⟨Cd.cs (cInt .i64) x.f_Kind ++ (Cd.cs cHd x.f_Bytes ++ (Cd.cs c_api_Endpoint x.f_From ++ (Cd.cs cHd x.f_Result ++ (Cd.cs cBool x.f_Ok ++ (Cd.cs (cVec (cInt .u8) 32 (by decide)) x.f_Key ++ (Cd.cs (cInt .u32) x.f_Local ++ (Cd.cs (cInt .u32) x.f_Remote ++ []))))))), [], by simp [c_api_Item], by simp only [List.length_append, Cd.len, List.length_nil] <;> rfl, fun z => by simp [c_api_Item]⟩
theorem opn_api_Item_33 : Opn Tryz.prog 33 c_api_Item ok_api_Item := fun enc w base spare held fuel cs d ps hd => by
  cases fuel with
  | zero => exact (opn_zero hd).elim
  | succ fuel =>
    obtain ⟨hlen, hf⟩ := opn_fields Tryz.underlying33 hd
    rw [show Tryz.prog.cellsOf 33 = 57 from by kernel_rfl] at hlen
    obtain ⟨d0, p0, h0⟩ : ∃ d' p', DataW.trod enc Tryz.prog w base spare held fuel 3 ((cs.drop 0).take (Tryz.prog.cellsOf 3)) = some (d', p') := hf 0 _ rfl
    obtain ⟨x0, e0, o0⟩ := (opn_int Tryz.underlying3) enc w base spare held fuel _ _ _ h0
    rw [show Tryz.prog.cellsOf 3 = 1 from by kernel_rfl] at e0
    obtain ⟨d1, p1, h1⟩ : ∃ d' p', DataW.trod enc Tryz.prog w base spare held fuel 22 ((cs.drop 1).take (Tryz.prog.cellsOf 22)) = some (d', p') := hf 1 _ rfl
    obtain ⟨x1, e1, o1⟩ := (opn_hd Tryz.underlying22) enc w base spare held fuel _ _ _ h1
    rw [show Tryz.prog.cellsOf 22 = 1 from by kernel_rfl] at e1
    obtain ⟨d2, p2, h2⟩ : ∃ d' p', DataW.trod enc Tryz.prog w base spare held fuel 27 ((cs.drop 2).take (Tryz.prog.cellsOf 27)) = some (d', p') := hf 2 _ rfl
    obtain ⟨x2, e2, o2⟩ := (opn_api_Endpoint_27) enc w base spare held fuel _ _ _ h2
    rw [show Tryz.prog.cellsOf 27 = 18 from by kernel_rfl] at e2
    obtain ⟨d3, p3, h3⟩ : ∃ d' p', DataW.trod enc Tryz.prog w base spare held fuel 22 ((cs.drop 20).take (Tryz.prog.cellsOf 22)) = some (d', p') := hf 3 _ rfl
    obtain ⟨x3, e3, o3⟩ := (opn_hd Tryz.underlying22) enc w base spare held fuel _ _ _ h3
    rw [show Tryz.prog.cellsOf 22 = 1 from by kernel_rfl] at e3
    obtain ⟨d4, p4, h4⟩ : ∃ d' p', DataW.trod enc Tryz.prog w base spare held fuel 4 ((cs.drop 21).take (Tryz.prog.cellsOf 4)) = some (d', p') := hf 4 _ rfl
    obtain ⟨x4, e4, o4⟩ := (opn_bool Tryz.underlying4) enc w base spare held fuel _ _ _ h4
    rw [show Tryz.prog.cellsOf 4 = 1 from by kernel_rfl] at e4
    obtain ⟨d5, p5, h5⟩ : ∃ d' p', DataW.trod enc Tryz.prog w base spare held fuel 29 ((cs.drop 22).take (Tryz.prog.cellsOf 29)) = some (d', p') := hf 5 _ rfl
    obtain ⟨x5, e5, o5⟩ := (opn_vec Tryz.underlying29 (by kernel_rfl) (by kernel_rfl) (opn_int Tryz.underlying5)) enc w base spare held fuel _ _ _ h5
    rw [show Tryz.prog.cellsOf 29 = 32 from by kernel_rfl] at e5
    obtain ⟨d6, p6, h6⟩ : ∃ d' p', DataW.trod enc Tryz.prog w base spare held fuel 30 ((cs.drop 54).take (Tryz.prog.cellsOf 30)) = some (d', p') := hf 6 _ rfl
    obtain ⟨x6, e6, o6⟩ := (opn_int Tryz.underlying30) enc w base spare held fuel _ _ _ h6
    rw [show Tryz.prog.cellsOf 30 = 1 from by kernel_rfl] at e6
    obtain ⟨d7, p7, h7⟩ : ∃ d' p', DataW.trod enc Tryz.prog w base spare held fuel 30 ((cs.drop 55).take (Tryz.prog.cellsOf 30)) = some (d', p') := hf 7 _ rfl
    obtain ⟨x7, e7, o7⟩ := (opn_int Tryz.underlying30) enc w base spare held fuel _ _ _ h7
    rw [show Tryz.prog.cellsOf 30 = 1 from by kernel_rfl] at e7
    obtain ⟨d8, p8, h8⟩ : ∃ d' p', DataW.trod enc Tryz.prog w base spare held fuel 31 ((cs.drop 56).take (Tryz.prog.cellsOf 31)) = some (d', p') := hf 8 _ rfl
    obtain ⟨x8, e8, o8⟩ := (opn_int Tryz.underlying31) enc w base spare held fuel _ _ _ h8
    rw [show Tryz.prog.cellsOf 31 = 1 from by kernel_rfl] at e8
    refine ⟨⟨x0, x1, x2, x3, x4, x5, x6, x7, x8⟩, ?_, o0, o1, o2, o3, o4, o5, o6, o7, o8⟩
    show cs = Cd.cs (cInt .i64) x0 ++ (Cd.cs cHd x1 ++ (Cd.cs c_api_Endpoint x2 ++ (Cd.cs cHd x3 ++ (Cd.cs cBool x4 ++ (Cd.cs (cVec (cInt .u8) 32 (by decide)) x5 ++ (Cd.cs (cInt .u32) x6 ++ (Cd.cs (cInt .u32) x7 ++ (Cd.cs (cInt .u64) x8 ++ []))))))))
    rw [← e0, ← e1, ← e2, ← e3, ← e4, ← e5, ← e6, ← e7, ← e8]
    exact (split_cons (l := cs) (o := 0) (k := 1) (split_cons (l := cs) (o := 1) (k := 1) (split_cons (l := cs) (o := 2) (k := 18) (split_cons (l := cs) (o := 20) (k := 1) (split_cons (l := cs) (o := 21) (k := 1) (split_cons (l := cs) (o := 22) (k := 32) (split_cons (l := cs) (o := 54) (k := 1) (split_cons (l := cs) (o := 55) (k := 1) (split_cons (l := cs) (o := 56) (k := 1) (split_nil (l := cs) (o := 57) (by omega)))))))))))
theorem places_api_Item_33 : ∀ w, ((#[{ name := "Kind", type := 3, offset := 0, embedded := false, tag := "", pkgPath := "", byteOffset := 0 }, { name := "Bytes", type := 22, offset := 1, embedded := false, tag := "", pkgPath := "", byteOffset := 8 }, { name := "From", type := 27, offset := 2, embedded := false, tag := "", pkgPath := "", byteOffset := 32 }, { name := "Result", type := 22, offset := 20, embedded := false, tag := "", pkgPath := "", byteOffset := 64 }, { name := "Ok", type := 4, offset := 21, embedded := false, tag := "", pkgPath := "", byteOffset := 88 }, { name := "Key", type := 29, offset := 22, embedded := false, tag := "", pkgPath := "", byteOffset := 89 }, { name := "Local", type := 30, offset := 54, embedded := false, tag := "", pkgPath := "", byteOffset := 124 }, { name := "Remote", type := 30, offset := 55, embedded := false, tag := "", pkgPath := "", byteOffset := 128 }, { name := "Next", type := 31, offset := 56, embedded := false, tag := "", pkgPath := "", byteOffset := 136 }] : Array Field).mapM fun f => (do pure (f.offset, ← sizeOf f.type) : Sem (Nat × Nat))).run Tryz.prog w = .ok #[(0, 1), (1, 1), (2, 18), (20, 1), (21, 1), (22, 32), (54, 1), (55, 1), (56, 1)] w := fun w => by
  simp [Tryz.sizeOf3 w, Tryz.sizeOf22 w, Tryz.sizeOf27 w, Tryz.sizeOf22 w, Tryz.sizeOf4 w, Tryz.sizeOf29 w, Tryz.sizeOf30 w, Tryz.sizeOf30 w, Tryz.sizeOf31 w]
structure S_api_Prefix where
  f_A : S_api_Addr
  f_Bits : Int
  deriving DecidableEq, Inhabited
def c_api_Prefix : Cd S_api_Prefix := ⟨18, fun x => Cd.cs c_api_Addr x.f_A ++ (Cd.cs (cInt .i64) x.f_Bits ++ []), fun x => by simp only [List.length_append, Cd.len, List.length_nil] <;> rfl, fun x v hv => by
  simp only [List.mem_append, List.not_mem_nil, or_false] at hv
  rcases hv with hv | hv
  all_goals exact Cd.one _ _ _ hv, by decide⟩
def ok_api_Prefix (x : S_api_Prefix) : Prop := ok_api_Addr x.f_A ∧ (fun n : Int => (Lit.int .i64 n).wf = true) x.f_Bits
theorem c_api_Prefix_f_A (x : S_api_Prefix) : Lens (c_api_Prefix.cs x) 0 c_api_Addr x.f_A (fun z => c_api_Prefix.cs { x with f_A := z }) :=
  ⟨[], Cd.cs (cInt .i64) x.f_Bits ++ [], by simp [c_api_Prefix], by simp only [List.length_append, Cd.len, List.length_nil] <;> rfl, fun z => by simp [c_api_Prefix]⟩
theorem c_api_Prefix_f_Bits (x : S_api_Prefix) : Lens (c_api_Prefix.cs x) 17 (cInt .i64) x.f_Bits (fun z => c_api_Prefix.cs { x with f_Bits := z }) :=
  ⟨Cd.cs c_api_Addr x.f_A ++ [], [], by simp [c_api_Prefix], by simp only [List.length_append, Cd.len, List.length_nil] <;> rfl, fun z => by simp [c_api_Prefix]⟩
theorem eq_api_Prefix_44 : Eqs Tryz.prog 44 c_api_Prefix true 3 := fun d hd x y w => by
  obtain ⟨d, rfl⟩ : ∃ e, d = e + 1 := ⟨d - 1, by omega⟩
  refine (run_eq_struct (xs := (c_api_Prefix.cs x).toArray) (ys := (c_api_Prefix.cs y).toArray) Tryz.underlying44 Tryz.stoodInHeld44).trans ?_
  refine Eq.trans (eqf_cons (c_api_Prefix_f_A x) (c_api_Prefix_f_A y) (by rfl) (by rfl) Tryz.isAgg25 Tryz.sizeOf25 (.inl rfl) (eq_api_Addr_25) (by omega) (eqf_cons (c_api_Prefix_f_Bits x) (c_api_Prefix_f_Bits y) (by rfl) (by rfl) Tryz.isAgg3 Tryz.sizeOf3 (.inr rfl) (eqs_int Tryz.underlying3) (by omega) eqf_nil)) ?_
  congr 1
  cases x; cases y
  rw [Bool.eq_iff_iff]; simp
theorem opn_api_Prefix_44 : Opn Tryz.prog 44 c_api_Prefix ok_api_Prefix := fun enc w base spare held fuel cs d ps hd => by
  cases fuel with
  | zero => exact (opn_zero hd).elim
  | succ fuel =>
    obtain ⟨hlen, hf⟩ := opn_fields Tryz.underlying44 hd
    rw [show Tryz.prog.cellsOf 44 = 18 from by kernel_rfl] at hlen
    obtain ⟨d0, p0, h0⟩ : ∃ d' p', DataW.trod enc Tryz.prog w base spare held fuel 25 ((cs.drop 0).take (Tryz.prog.cellsOf 25)) = some (d', p') := hf 0 _ rfl
    obtain ⟨x0, e0, o0⟩ := (opn_api_Addr_25) enc w base spare held fuel _ _ _ h0
    rw [show Tryz.prog.cellsOf 25 = 17 from by kernel_rfl] at e0
    obtain ⟨d1, p1, h1⟩ : ∃ d' p', DataW.trod enc Tryz.prog w base spare held fuel 3 ((cs.drop 17).take (Tryz.prog.cellsOf 3)) = some (d', p') := hf 1 _ rfl
    obtain ⟨x1, e1, o1⟩ := (opn_int Tryz.underlying3) enc w base spare held fuel _ _ _ h1
    rw [show Tryz.prog.cellsOf 3 = 1 from by kernel_rfl] at e1
    refine ⟨⟨x0, x1⟩, ?_, o0, o1⟩
    show cs = Cd.cs c_api_Addr x0 ++ (Cd.cs (cInt .i64) x1 ++ [])
    rw [← e0, ← e1]
    exact (split_cons (l := cs) (o := 0) (k := 17) (split_cons (l := cs) (o := 17) (k := 1) (split_nil (l := cs) (o := 18) (by omega))))
theorem places_api_Prefix_44 : ∀ w, ((#[{ name := "A", type := 25, offset := 0, embedded := false, tag := "", pkgPath := "", byteOffset := 0 }, { name := "Bits", type := 3, offset := 17, embedded := false, tag := "", pkgPath := "", byteOffset := 24 }] : Array Field).mapM fun f => (do pure (f.offset, ← sizeOf f.type) : Sem (Nat × Nat))).run Tryz.prog w = .ok #[(0, 17), (17, 1)] w := fun w => by
  simp [Tryz.sizeOf25 w, Tryz.sizeOf3 w]
structure S_api_Field where
  f_Word : Int
  f_Key : (Vector Int 32)
  f_N : Int
  f_End : S_api_Endpoint
  f_P : S_api_Prefix
  deriving DecidableEq, Inhabited
def c_api_Field : Cd S_api_Field := ⟨70, fun x => Cd.cs (cInt .i64) x.f_Word ++ (Cd.cs (cVec (cInt .u8) 32 (by decide)) x.f_Key ++ (Cd.cs (cInt .u64) x.f_N ++ (Cd.cs c_api_Endpoint x.f_End ++ (Cd.cs c_api_Prefix x.f_P ++ [])))), fun x => by simp only [List.length_append, Cd.len, List.length_nil] <;> rfl, fun x v hv => by
  simp only [List.mem_append, List.not_mem_nil, or_false] at hv
  rcases hv with hv | hv | hv | hv | hv
  all_goals exact Cd.one _ _ _ hv, by decide⟩
def ok_api_Field (x : S_api_Field) : Prop := (fun n : Int => (Lit.int .i64 n).wf = true) x.f_Word ∧ (fun v : (Vector Int 32) => ∀ x ∈ v.toList, (fun n : Int => (Lit.int .u8 n).wf = true) x) x.f_Key ∧ (fun n : Int => (Lit.int .u64 n).wf = true) x.f_N ∧ ok_api_Endpoint x.f_End ∧ ok_api_Prefix x.f_P
theorem c_api_Field_f_Word (x : S_api_Field) : Lens (c_api_Field.cs x) 0 (cInt .i64) x.f_Word (fun z => c_api_Field.cs { x with f_Word := z }) :=
  ⟨[], Cd.cs (cVec (cInt .u8) 32 (by decide)) x.f_Key ++ (Cd.cs (cInt .u64) x.f_N ++ (Cd.cs c_api_Endpoint x.f_End ++ (Cd.cs c_api_Prefix x.f_P ++ []))), by simp [c_api_Field], by simp only [List.length_append, Cd.len, List.length_nil] <;> rfl, fun z => by simp [c_api_Field]⟩
theorem c_api_Field_f_Key (x : S_api_Field) : Lens (c_api_Field.cs x) 1 (cVec (cInt .u8) 32 (by decide)) x.f_Key (fun z => c_api_Field.cs { x with f_Key := z }) :=
  ⟨Cd.cs (cInt .i64) x.f_Word ++ [], Cd.cs (cInt .u64) x.f_N ++ (Cd.cs c_api_Endpoint x.f_End ++ (Cd.cs c_api_Prefix x.f_P ++ [])), by simp [c_api_Field], by simp only [List.length_append, Cd.len, List.length_nil] <;> rfl, fun z => by simp [c_api_Field]⟩
theorem c_api_Field_f_N (x : S_api_Field) : Lens (c_api_Field.cs x) 33 (cInt .u64) x.f_N (fun z => c_api_Field.cs { x with f_N := z }) :=
  ⟨Cd.cs (cInt .i64) x.f_Word ++ (Cd.cs (cVec (cInt .u8) 32 (by decide)) x.f_Key ++ []), Cd.cs c_api_Endpoint x.f_End ++ (Cd.cs c_api_Prefix x.f_P ++ []), by simp [c_api_Field], by simp only [List.length_append, Cd.len, List.length_nil] <;> rfl, fun z => by simp [c_api_Field]⟩
theorem c_api_Field_f_End (x : S_api_Field) : Lens (c_api_Field.cs x) 34 c_api_Endpoint x.f_End (fun z => c_api_Field.cs { x with f_End := z }) :=
  ⟨Cd.cs (cInt .i64) x.f_Word ++ (Cd.cs (cVec (cInt .u8) 32 (by decide)) x.f_Key ++ (Cd.cs (cInt .u64) x.f_N ++ [])), Cd.cs c_api_Prefix x.f_P ++ [], by simp [c_api_Field], by simp only [List.length_append, Cd.len, List.length_nil] <;> rfl, fun z => by simp [c_api_Field]⟩
theorem c_api_Field_f_P (x : S_api_Field) : Lens (c_api_Field.cs x) 52 c_api_Prefix x.f_P (fun z => c_api_Field.cs { x with f_P := z }) :=
  ⟨Cd.cs (cInt .i64) x.f_Word ++ (Cd.cs (cVec (cInt .u8) 32 (by decide)) x.f_Key ++ (Cd.cs (cInt .u64) x.f_N ++ (Cd.cs c_api_Endpoint x.f_End ++ []))), [], by simp [c_api_Field], by simp only [List.length_append, Cd.len, List.length_nil] <;> rfl, fun z => by simp [c_api_Field]⟩
theorem eq_api_Field_46 : Eqs Tryz.prog 46 c_api_Field true 4 := fun d hd x y w => by
  obtain ⟨d, rfl⟩ : ∃ e, d = e + 1 := ⟨d - 1, by omega⟩
  refine (run_eq_struct (xs := (c_api_Field.cs x).toArray) (ys := (c_api_Field.cs y).toArray) Tryz.underlying46 Tryz.stoodInHeld46).trans ?_
  refine Eq.trans (eqf_cons (c_api_Field_f_Word x) (c_api_Field_f_Word y) (by rfl) (by rfl) Tryz.isAgg3 Tryz.sizeOf3 (.inr rfl) (eqs_int Tryz.underlying3) (by omega) (eqf_cons (c_api_Field_f_Key x) (c_api_Field_f_Key y) (by rfl) (by rfl) Tryz.isAgg29 Tryz.sizeOf29 (.inl rfl) (eqs_vec Tryz.underlying29 infoT5 Tryz.sizeOf5 Tryz.isAgg5 (.inr rfl) (eqs_int Tryz.underlying5)) (by omega) (eqf_cons (c_api_Field_f_N x) (c_api_Field_f_N y) (by rfl) (by rfl) Tryz.isAgg31 Tryz.sizeOf31 (.inr rfl) (eqs_int Tryz.underlying31) (by omega) (eqf_cons (c_api_Field_f_End x) (c_api_Field_f_End y) (by rfl) (by rfl) Tryz.isAgg27 Tryz.sizeOf27 (.inl rfl) (eq_api_Endpoint_27) (by omega) (eqf_cons (c_api_Field_f_P x) (c_api_Field_f_P y) (by rfl) (by rfl) Tryz.isAgg44 Tryz.sizeOf44 (.inl rfl) (eq_api_Prefix_44) (by omega) eqf_nil))))) ?_
  congr 1
  cases x; cases y
  rw [Bool.eq_iff_iff]; simp
theorem opn_api_Field_46 : Opn Tryz.prog 46 c_api_Field ok_api_Field := fun enc w base spare held fuel cs d ps hd => by
  cases fuel with
  | zero => exact (opn_zero hd).elim
  | succ fuel =>
    obtain ⟨hlen, hf⟩ := opn_fields Tryz.underlying46 hd
    rw [show Tryz.prog.cellsOf 46 = 70 from by kernel_rfl] at hlen
    obtain ⟨d0, p0, h0⟩ : ∃ d' p', DataW.trod enc Tryz.prog w base spare held fuel 3 ((cs.drop 0).take (Tryz.prog.cellsOf 3)) = some (d', p') := hf 0 _ rfl
    obtain ⟨x0, e0, o0⟩ := (opn_int Tryz.underlying3) enc w base spare held fuel _ _ _ h0
    rw [show Tryz.prog.cellsOf 3 = 1 from by kernel_rfl] at e0
    obtain ⟨d1, p1, h1⟩ : ∃ d' p', DataW.trod enc Tryz.prog w base spare held fuel 29 ((cs.drop 1).take (Tryz.prog.cellsOf 29)) = some (d', p') := hf 1 _ rfl
    obtain ⟨x1, e1, o1⟩ := (opn_vec Tryz.underlying29 (by kernel_rfl) (by kernel_rfl) (opn_int Tryz.underlying5)) enc w base spare held fuel _ _ _ h1
    rw [show Tryz.prog.cellsOf 29 = 32 from by kernel_rfl] at e1
    obtain ⟨d2, p2, h2⟩ : ∃ d' p', DataW.trod enc Tryz.prog w base spare held fuel 31 ((cs.drop 33).take (Tryz.prog.cellsOf 31)) = some (d', p') := hf 2 _ rfl
    obtain ⟨x2, e2, o2⟩ := (opn_int Tryz.underlying31) enc w base spare held fuel _ _ _ h2
    rw [show Tryz.prog.cellsOf 31 = 1 from by kernel_rfl] at e2
    obtain ⟨d3, p3, h3⟩ : ∃ d' p', DataW.trod enc Tryz.prog w base spare held fuel 27 ((cs.drop 34).take (Tryz.prog.cellsOf 27)) = some (d', p') := hf 3 _ rfl
    obtain ⟨x3, e3, o3⟩ := (opn_api_Endpoint_27) enc w base spare held fuel _ _ _ h3
    rw [show Tryz.prog.cellsOf 27 = 18 from by kernel_rfl] at e3
    obtain ⟨d4, p4, h4⟩ : ∃ d' p', DataW.trod enc Tryz.prog w base spare held fuel 44 ((cs.drop 52).take (Tryz.prog.cellsOf 44)) = some (d', p') := hf 4 _ rfl
    obtain ⟨x4, e4, o4⟩ := (opn_api_Prefix_44) enc w base spare held fuel _ _ _ h4
    rw [show Tryz.prog.cellsOf 44 = 18 from by kernel_rfl] at e4
    refine ⟨⟨x0, x1, x2, x3, x4⟩, ?_, o0, o1, o2, o3, o4⟩
    show cs = Cd.cs (cInt .i64) x0 ++ (Cd.cs (cVec (cInt .u8) 32 (by decide)) x1 ++ (Cd.cs (cInt .u64) x2 ++ (Cd.cs c_api_Endpoint x3 ++ (Cd.cs c_api_Prefix x4 ++ []))))
    rw [← e0, ← e1, ← e2, ← e3, ← e4]
    exact (split_cons (l := cs) (o := 0) (k := 1) (split_cons (l := cs) (o := 1) (k := 32) (split_cons (l := cs) (o := 33) (k := 1) (split_cons (l := cs) (o := 34) (k := 18) (split_cons (l := cs) (o := 52) (k := 18) (split_nil (l := cs) (o := 70) (by omega)))))))
theorem places_api_Field_46 : ∀ w, ((#[{ name := "Word", type := 3, offset := 0, embedded := false, tag := "", pkgPath := "", byteOffset := 0 }, { name := "Key", type := 29, offset := 1, embedded := false, tag := "", pkgPath := "", byteOffset := 8 }, { name := "N", type := 31, offset := 33, embedded := false, tag := "", pkgPath := "", byteOffset := 40 }, { name := "End", type := 27, offset := 34, embedded := false, tag := "", pkgPath := "", byteOffset := 48 }, { name := "P", type := 44, offset := 52, embedded := false, tag := "", pkgPath := "", byteOffset := 80 }] : Array Field).mapM fun f => (do pure (f.offset, ← sizeOf f.type) : Sem (Nat × Nat))).run Tryz.prog w = .ok #[(0, 1), (1, 32), (33, 1), (34, 18), (52, 18)] w := fun w => by
  simp [Tryz.sizeOf3 w, Tryz.sizeOf29 w, Tryz.sizeOf31 w, Tryz.sizeOf27 w, Tryz.sizeOf44 w]
structure S_pairline_Pair where
  f_Key : ByteArray
  f_Value : ByteArray
  deriving DecidableEq, Inhabited
def c_pairline_Pair : Cd S_pairline_Pair := ⟨2, fun x => Cd.cs cStr x.f_Key ++ (Cd.cs cStr x.f_Value ++ []), fun x => by simp only [List.length_append, Cd.len, List.length_nil] <;> rfl, fun x v hv => by
  simp only [List.mem_append, List.not_mem_nil, or_false] at hv
  rcases hv with hv | hv
  all_goals exact Cd.one _ _ _ hv, by decide⟩
def ok_pairline_Pair (x : S_pairline_Pair) : Prop := (fun s : ByteArray => s.size ≤ maxLen) x.f_Key ∧ (fun s : ByteArray => s.size ≤ maxLen) x.f_Value
theorem c_pairline_Pair_f_Key (x : S_pairline_Pair) : Lens (c_pairline_Pair.cs x) 0 cStr x.f_Key (fun z => c_pairline_Pair.cs { x with f_Key := z }) :=
  ⟨[], Cd.cs cStr x.f_Value ++ [], by simp [c_pairline_Pair], by simp only [List.length_append, Cd.len, List.length_nil] <;> rfl, fun z => by simp [c_pairline_Pair]⟩
theorem c_pairline_Pair_f_Value (x : S_pairline_Pair) : Lens (c_pairline_Pair.cs x) 1 cStr x.f_Value (fun z => c_pairline_Pair.cs { x with f_Value := z }) :=
  ⟨Cd.cs cStr x.f_Key ++ [], [], by simp [c_pairline_Pair], by simp only [List.length_append, Cd.len, List.length_nil] <;> rfl, fun z => by simp [c_pairline_Pair]⟩
theorem eq_pairline_Pair_51 : Eqs Tryz.prog 51 c_pairline_Pair true 1 := fun d hd x y w => by
  obtain ⟨d, rfl⟩ : ∃ e, d = e + 1 := ⟨d - 1, by omega⟩
  refine (run_eq_struct (xs := (c_pairline_Pair.cs x).toArray) (ys := (c_pairline_Pair.cs y).toArray) Tryz.underlying51 Tryz.stoodInHeld51).trans ?_
  refine Eq.trans (eqf_cons (c_pairline_Pair_f_Key x) (c_pairline_Pair_f_Key y) (by rfl) (by rfl) Tryz.isAgg9 Tryz.sizeOf9 (.inr rfl) (eqs_str Tryz.underlying9) (by omega) (eqf_cons (c_pairline_Pair_f_Value x) (c_pairline_Pair_f_Value y) (by rfl) (by rfl) Tryz.isAgg9 Tryz.sizeOf9 (.inr rfl) (eqs_str Tryz.underlying9) (by omega) eqf_nil)) ?_
  congr 1
  cases x; cases y
  rw [Bool.eq_iff_iff]; simp
theorem opn_pairline_Pair_51 : Opn Tryz.prog 51 c_pairline_Pair ok_pairline_Pair := fun enc w base spare held fuel cs d ps hd => by
  cases fuel with
  | zero => exact (opn_zero hd).elim
  | succ fuel =>
    obtain ⟨hlen, hf⟩ := opn_fields Tryz.underlying51 hd
    rw [show Tryz.prog.cellsOf 51 = 2 from by kernel_rfl] at hlen
    obtain ⟨d0, p0, h0⟩ : ∃ d' p', DataW.trod enc Tryz.prog w base spare held fuel 9 ((cs.drop 0).take (Tryz.prog.cellsOf 9)) = some (d', p') := hf 0 _ rfl
    obtain ⟨x0, e0, o0⟩ := (opn_str Tryz.underlying9) enc w base spare held fuel _ _ _ h0
    rw [show Tryz.prog.cellsOf 9 = 1 from by kernel_rfl] at e0
    obtain ⟨d1, p1, h1⟩ : ∃ d' p', DataW.trod enc Tryz.prog w base spare held fuel 9 ((cs.drop 1).take (Tryz.prog.cellsOf 9)) = some (d', p') := hf 1 _ rfl
    obtain ⟨x1, e1, o1⟩ := (opn_str Tryz.underlying9) enc w base spare held fuel _ _ _ h1
    rw [show Tryz.prog.cellsOf 9 = 1 from by kernel_rfl] at e1
    refine ⟨⟨x0, x1⟩, ?_, o0, o1⟩
    show cs = Cd.cs cStr x0 ++ (Cd.cs cStr x1 ++ [])
    rw [← e0, ← e1]
    exact (split_cons (l := cs) (o := 0) (k := 1) (split_cons (l := cs) (o := 1) (k := 1) (split_nil (l := cs) (o := 2) (by omega))))
theorem places_pairline_Pair_51 : ∀ w, ((#[{ name := "Key", type := 9, offset := 0, embedded := false, tag := "", pkgPath := "", byteOffset := 0 }, { name := "Value", type := 9, offset := 1, embedded := false, tag := "", pkgPath := "", byteOffset := 16 }] : Array Field).mapM fun f => (do pure (f.offset, ← sizeOf f.type) : Sem (Nat × Nat))).run Tryz.prog w = .ok #[(0, 1), (1, 1)] w := fun w => by
  simp [Tryz.sizeOf9 w, Tryz.sizeOf9 w]
theorem eq_pairline_Pair_54 : Eqs Tryz.prog 54 c_pairline_Pair true 1 := fun d hd x y w => by
  obtain ⟨d, rfl⟩ : ∃ e, d = e + 1 := ⟨d - 1, by omega⟩
  refine (run_eq_struct (xs := (c_pairline_Pair.cs x).toArray) (ys := (c_pairline_Pair.cs y).toArray) Tryz.underlying54 Tryz.stoodInHeld54).trans ?_
  refine Eq.trans (eqf_cons (c_pairline_Pair_f_Key x) (c_pairline_Pair_f_Key y) (by rfl) (by rfl) Tryz.isAgg9 Tryz.sizeOf9 (.inr rfl) (eqs_str Tryz.underlying9) (by omega) (eqf_cons (c_pairline_Pair_f_Value x) (c_pairline_Pair_f_Value y) (by rfl) (by rfl) Tryz.isAgg9 Tryz.sizeOf9 (.inr rfl) (eqs_str Tryz.underlying9) (by omega) eqf_nil)) ?_
  congr 1
  cases x; cases y
  rw [Bool.eq_iff_iff]; simp
theorem opn_pairline_Pair_54 : Opn Tryz.prog 54 c_pairline_Pair ok_pairline_Pair := fun enc w base spare held fuel cs d ps hd => by
  cases fuel with
  | zero => exact (opn_zero hd).elim
  | succ fuel =>
    obtain ⟨hlen, hf⟩ := opn_fields Tryz.underlying54 hd
    rw [show Tryz.prog.cellsOf 54 = 2 from by kernel_rfl] at hlen
    obtain ⟨d0, p0, h0⟩ : ∃ d' p', DataW.trod enc Tryz.prog w base spare held fuel 9 ((cs.drop 0).take (Tryz.prog.cellsOf 9)) = some (d', p') := hf 0 _ rfl
    obtain ⟨x0, e0, o0⟩ := (opn_str Tryz.underlying9) enc w base spare held fuel _ _ _ h0
    rw [show Tryz.prog.cellsOf 9 = 1 from by kernel_rfl] at e0
    obtain ⟨d1, p1, h1⟩ : ∃ d' p', DataW.trod enc Tryz.prog w base spare held fuel 9 ((cs.drop 1).take (Tryz.prog.cellsOf 9)) = some (d', p') := hf 1 _ rfl
    obtain ⟨x1, e1, o1⟩ := (opn_str Tryz.underlying9) enc w base spare held fuel _ _ _ h1
    rw [show Tryz.prog.cellsOf 9 = 1 from by kernel_rfl] at e1
    refine ⟨⟨x0, x1⟩, ?_, o0, o1⟩
    show cs = Cd.cs cStr x0 ++ (Cd.cs cStr x1 ++ [])
    rw [← e0, ← e1]
    exact (split_cons (l := cs) (o := 0) (k := 1) (split_cons (l := cs) (o := 1) (k := 1) (split_nil (l := cs) (o := 2) (by omega))))
theorem places_pairline_Pair_54 : ∀ w, ((#[{ name := "Key", type := 9, offset := 0, embedded := false, tag := "", pkgPath := "", byteOffset := 0 }, { name := "Value", type := 9, offset := 1, embedded := false, tag := "", pkgPath := "", byteOffset := 16 }] : Array Field).mapM fun f => (do pure (f.offset, ← sizeOf f.type) : Sem (Nat × Nat))).run Tryz.prog w = .ok #[(0, 1), (1, 1)] w := fun w => by
  simp [Tryz.sizeOf9 w, Tryz.sizeOf9 w]
theorem placesR_81 : ∀ w, ((#[{ name := "read", type := 77, offset := 0, embedded := false, tag := "", pkgPath := "crawlway/field", byteOffset := 0 }, { name := "text", type := 78, offset := 1, embedded := false, tag := "", pkgPath := "crawlway/field", byteOffset := 8 }, { name := "bare", type := 79, offset := 2, embedded := false, tag := "", pkgPath := "crawlway/field", byteOffset := 16 }] : Array Field).mapM fun f => (do pure (f.offset, ← sizeOf f.type) : Sem (Nat × Nat))).run Tryz.prog w = .ok #[(0, 1), (1, 1), (2, 1)] w := fun w => by
  simp [Tryz.sizeOf77 w, Tryz.sizeOf78 w, Tryz.sizeOf79 w]
end Go.Proofs.YtkkmmpofdcccmaaGreatDoor

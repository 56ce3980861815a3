/- Shallow texts of functions, by a program (gen.py) out of the translation. No condition. -/
import Derived.Test.YthepabefikobpaaTypes
namespace Go.Proofs.Ythepabefikobpaa
open Go Go.Sh
namespace S
/-- doublet/doubletlaw25.HopcroftBlocks, function 3. -/
def law25_HopcroftBlocks (p0 : Dfv) : M Bool :=
  M.new 27 (Dfv.cs p0) fun b1 =>
  M.ldA Dfv.cs b1 fun v2 =>
  M.call Try.prog 6 [(.agg (Dfv.cs v2).toArray)] (fun x : (Dfv × Int) => .tuple #[(.agg (Dfv.cs x.1).toArray), (vI x.2)]) fun r3 =>
  M.new 27 (Dfv.cs (⟨fun _ => 0, 0, Sl.nil, Sl.nil, Sl.nil⟩ : Dfv)) fun b4 =>
  M.stA b4 (Dfv.cs r3.1) <|
  M.ldA Dfv.cs b1 fun v5 =>
  M.call Try.prog 7 [(.agg (Dfv.cs v5).toArray)] Value.bool fun r6 =>
  M.ite (!r6)
  (M.ldA Dfv.cs b1 fun v7 =>
  M.call Try.prog 8 [(.agg (Dfv.cs v7).toArray)] Sl.val fun r8 =>
  M.ite (decide ((r8.len : Int) = 0))
  (M.ldA Dfv.cs b1 fun v10 =>
  M.call Try.prog 9 [(.agg (Dfv.cs v10).toArray)] vI fun r11 =>
  M.ite (decide (r11 = (-1)))
  (M.ite (decide (r3.2 = 6))
  (M.ld Sl.val (b4.add 258) fun x14 =>
  M.ite (decide ((x14.len : Int) = 0))
  (M.call Try.prog 10 [] Value.bool fun r16 =>
  M.ret r16)
  (M.ret false))
  (M.ret false))
  (M.ret false))
  (M.ret false))
  (M.ldA Dfv.cs b1 fun v17 =>
  M.call Try.prog 11 [(.agg (Dfv.cs v17).toArray), (vI 40)] Value.bool fun r18 =>
  M.ite (!r18)
  (M.call Try.prog 10 [] Value.bool fun r19 =>
  M.ret r19)
  (M.ldA Dfv.cs b1 fun v20 =>
  M.call Try.prog 12 [(.agg (Dfv.cs v20).toArray)] (fun x : (Dfv × Int) => .tuple #[(.agg (Dfv.cs x.1).toArray), (vI x.2)]) fun r21 =>
  M.new 27 (Dfv.cs (⟨fun _ => 0, 0, Sl.nil, Sl.nil, Sl.nil⟩ : Dfv)) fun b22 =>
  M.stA b22 (Dfv.cs r21.1) <|
  M.drew <|
  M.ldA Dfv.cs b1 fun v23 =>
  M.ldA Dfv.cs b1 fun v24 =>
  M.call Try.prog 8 [(.agg (Dfv.cs v23).toArray)] Sl.val fun r25 =>
  M.chk (fun w => Cells w b1 (Dfv.cs v24)) <|
  M.call Try.prog 14 [(.agg (Dfv.cs v24).toArray)] Sl.val fun r27 =>
  M.call Try.prog 13 [(Sl.val r25), (Sl.val r27)] Value.bool fun r28 =>
  M.ite r28
  (M.ldA Dfv.cs b1 fun v30 =>
  M.ldA Dfv.cs b1 fun v31 =>
  M.call Try.prog 9 [(.agg (Dfv.cs v30).toArray)] vI fun r32 =>
  M.chk (fun w => Cells w b1 (Dfv.cs v31)) <|
  M.call Try.prog 15 [(.agg (Dfv.cs v31).toArray)] vI fun r34 =>
  M.ite (decide (r32 = r34))
  (M.ite (decide (r3.2 = r21.2))
  (M.ldA Dfv.cs b4 fun v37 =>
  M.ldA Dfv.cs b22 fun v38 =>
  M.call Try.prog 16 [(.agg (Dfv.cs v37).toArray), (.agg (Dfv.cs v38).toArray)] Value.bool fun r39 =>
  M.ite r39
  (M.call Try.prog 10 [] Value.bool fun r41 =>
  M.ret r41)
  (M.ret false))
  (M.ret false))
  (M.ret false))
  (M.ret false)))
/-- doublet/doubletlaw25.HopcroftSame, function 4. -/
def law25_HopcroftSame (p0 : Dfv) : M Bool :=
  M.new 27 (Dfv.cs p0) fun b1 =>
  M.drew <|
  M.ldA Dfv.cs b1 fun v2 =>
  M.call Try.prog 11 [(.agg (Dfv.cs v2).toArray), (vI 500)] Value.bool fun r3 =>
  M.ite (!r3)
  (M.ret true)
  (M.ldA Dfv.cs b1 fun v5 =>
  M.ldA Dfv.cs b1 fun v6 =>
  M.call Try.prog 8 [(.agg (Dfv.cs v5).toArray)] Sl.val fun r7 =>
  M.chk (fun w => Cells w b1 (Dfv.cs v6)) <|
  M.call Try.prog 17 [(.agg (Dfv.cs v6).toArray)] Sl.val fun r9 =>
  M.call Try.prog 13 [(Sl.val r7), (Sl.val r9)] Value.bool fun r10 =>
  M.ite r10
  (M.call Try.prog 10 [] Value.bool fun r12 =>
  M.ret r12)
  (M.ret false))
/-- doublet/doubletlaw25.HopcroftSmall, function 5. -/
def law25_HopcroftSmall (p0 : Dfv) (p1 : Sl) (p2 : Sl) : M Bool :=
  M.new 27 (Dfv.cs p0) fun b1 =>
  M.join (fun (q6 : Bool) =>
  M.ite q6
  (M.call Try.prog 10 [] Value.bool fun r7 =>
  M.ret r7)
  (M.ldA Dfv.cs b1 fun v8 =>
  M.call Try.prog 6 [(.agg (Dfv.cs v8).toArray)] (fun x : (Dfv × Int) => .tuple #[(.agg (Dfv.cs x.1).toArray), (vI x.2)]) fun r9 =>
  M.new 27 (Dfv.cs (⟨fun _ => 0, 0, Sl.nil, Sl.nil, Sl.nil⟩ : Dfv)) fun b10 =>
  M.stA b10 (Dfv.cs r9.1) <|
  M.ldA Dfv.cs b10 fun v11 =>
  M.call Try.prog 6 [(.agg (Dfv.cs v11).toArray)] (fun x : (Dfv × Int) => .tuple #[(.agg (Dfv.cs x.1).toArray), (vI x.2)]) fun r12 =>
  M.new 27 (Dfv.cs (⟨fun _ => 0, 0, Sl.nil, Sl.nil, Sl.nil⟩ : Dfv)) fun b13 =>
  M.stA b13 (Dfv.cs r12.1) <|
  M.join (fun (q34 : Bool) =>
  M.ite q34
  (M.ret false)
  (M.ldA Dfv.cs b10 fun v35 =>
  M.call Try.prog 17 [(.agg (Dfv.cs v35).toArray)] Sl.val fun r36 =>
  M.loop (fun (go38 : Int → M _) (q37 : Int) =>
  M.ite (decide (q37 < (r36.len : Int)))
  (M.ix r36 q37 1 fun a39 =>
  M.ld vI a39 fun x40 =>
  M.ite (!decide (x40 = q37))
  (M.ret false)
  (go38 (wI (q37 + 1))))
  (M.ld Sl.val (b1.add 258) fun x42 =>
  M.ldA Ar.cs (b1.add 0) fun v43 =>
  M.ld vI (b1.add 256) fun x44 =>
  M.ld Sl.val (b1.add 259) fun x45 =>
  M.new 27 (Dfv.cs (⟨fun _ => 0, 0, Sl.nil, Sl.nil, Sl.nil⟩ : Dfv)) fun b46 =>
  M.stA b46 (Dfv.cs (⟨v43, x44, Sl.nil, Sl.nil, x45⟩ : Dfv)) <|
  M.loop (fun (go48 : Int → M _) (q47 : Int) =>
  M.ite (decide (q47 < (wI ((x42.len : Int) + (p2.len : Int)))))
  (M.join (fun (q53 : Int) =>
  M.new 3 [] fun b54 =>
  M.loop (fun (go56 : (Sl × Int) → M _) (q55 : (Sl × Int)) =>
  M.ld vI (b1.add 256) fun x57 =>
  M.ite (decide (q55.2 < x57))
  (M.ld Sl.val (b1.add 257) fun x58 =>
  M.ix x58 q53 1 fun a59 =>
  M.ld Sl.val a59 fun x60 =>
  M.ix x60 q55.2 1 fun a61 =>
  M.ld vI a61 fun x62 =>
  M.join (fun (q71 : Int) =>
  M.new 3 [(vI q71)] fun b72 =>
  M.run Try.prog (Builtin.append_ #[24, 24] 24 #[(Sl.val q55.1), (Sl.val (⟨some b72, 1, 1⟩ : Sl))]) Sl.val fun s73 =>
  go56 (s73, wI (q55.2 + 1))) fun J63 =>
  M.join (fun (q69 : Bool) =>
  M.ite q69
  (M.asm (((p2.len : Int) : Int) ≠ 0) <|
  J63 (wI ((x42.len : Int) + (Int.tmod q47 (p2.len : Int)))))
  (J63 x62)) fun J64 =>
  M.ite (decide (0 < (p2.len : Int)))
  (M.asm (((p2.len : Int) : Int) ≠ 0) <|
  M.ite (decide ((Int.tmod q47 (p2.len : Int)) = q55.2))
  (M.asm (((p2.len : Int) : Int) ≠ 0) <|
  M.ix p2 (Int.tmod q47 (p2.len : Int)) 1 fun a67 =>
  M.ld vU8 a67 fun x68 =>
  M.asm (((x42.len : Int) : Int) ≠ 0) <|
  J64 (decide ((Int.tmod (wI x68) (x42.len : Int)) = x62)))
  (J64 false))
  (J64 false))
  (M.ld Sl.val (b46.add 257) fun x74 =>
  M.new 24 [(Sl.val q55.1)] fun b75 =>
  M.run Try.prog (Builtin.append_ #[23, 23] 23 #[(Sl.val x74), (Sl.val (⟨some b75, 1, 1⟩ : Sl))]) Sl.val fun s76 =>
  M.st (b46.add 257) (Sl.val s76) <|
  M.drew <|
  M.ld Sl.val (b46.add 258) fun x77 =>
  M.ld Sl.val (b1.add 258) fun x78 =>
  M.ix x78 q53 1 fun a79 =>
  M.ld vI a79 fun x80 =>
  M.new 3 [(vI x80)] fun b81 =>
  M.chk (fun w => w.cell? (b1.add 258) = some (Sl.val x78)) <|
  M.chk (fun w => w.cell? (b46.add 258) = some (Sl.val x77)) <|
  M.run Try.prog (Builtin.append_ #[24, 24] 24 #[(Sl.val x77), (Sl.val (⟨some b81, 1, 1⟩ : Sl))]) Sl.val fun s84 =>
  M.chk (fun w => w.cell? (b1.add 258) = some (Sl.val x78)) <|
  M.st (b46.add 258) (Sl.val s84) <|
  go48 (wI (q47 + 1)))) ((⟨some b54, 0, 0⟩ : Sl), 0)) fun J49 =>
  M.ite (decide ((x42.len : Int) ≤ q47))
  (M.ix p2 (wI (q47 - (x42.len : Int))) 1 fun a50 =>
  M.ld vU8 a50 fun x51 =>
  M.asm (((x42.len : Int) : Int) ≠ 0) <|
  J49 (Int.tmod (wI x51) (x42.len : Int)))
  (J49 q47))
  (M.ldA Dfv.cs b46 fun v87 =>
  M.call Try.prog 6 [(.agg (Dfv.cs v87).toArray)] (fun x : (Dfv × Int) => .tuple #[(.agg (Dfv.cs x.1).toArray), (vI x.2)]) fun r88 =>
  M.new 27 (Dfv.cs (⟨fun _ => 0, 0, Sl.nil, Sl.nil, Sl.nil⟩ : Dfv)) fun b89 =>
  M.stA b89 (Dfv.cs r88.1) <|
  M.drew <|
  M.ite (decide (r88.2 = 0))
  (M.ld Sl.val (b89.add 258) fun x91 =>
  M.ld Sl.val (b10.add 258) fun x92 =>
  M.ite (decide ((x91.len : Int) = (x92.len : Int)))
  (M.ldA Dfv.cs b89 fun v94 =>
  M.ldA Dfv.cs b1 fun v95 =>
  M.call Try.prog 18 [(.agg (Dfv.cs v94).toArray), (Sl.val p1)] Value.string fun r96 =>
  M.chk (fun w => Cells w b1 (Dfv.cs v95)) <|
  M.chk (fun w => w.cell? (b10.add 258) = some (Sl.val x92)) <|
  M.chk (fun w => w.cell? (b89.add 258) = some (Sl.val x91)) <|
  M.call Try.prog 18 [(.agg (Dfv.cs v95).toArray), (Sl.val p1)] Value.string fun r100 =>
  M.chk (fun w => w.cell? (b10.add 258) = some (Sl.val x92)) <|
  M.chk (fun w => w.cell? (b89.add 258) = some (Sl.val x91)) <|
  M.ite (ByteArray.toList r96 == ByteArray.toList r100)
  (M.ldA Dfv.cs b46 fun v104 =>
  M.ldA Dfv.cs b46 fun v105 =>
  M.call Try.prog 8 [(.agg (Dfv.cs v105).toArray)] Sl.val fun r106 =>
  M.chk (fun w => Cells w b46 (Dfv.cs v104)) <|
  M.chk (fun w => w.cell? (b10.add 258) = some (Sl.val x92)) <|
  M.chk (fun w => w.cell? (b89.add 258) = some (Sl.val x91)) <|
  M.call Try.prog 21 [(.agg (Dfv.cs v104).toArray), (Sl.val r106)] Value.bool fun r110 =>
  M.chk (fun w => w.cell? (b10.add 258) = some (Sl.val x92)) <|
  M.chk (fun w => w.cell? (b89.add 258) = some (Sl.val x91)) <|
  M.ite r110
  (M.call Try.prog 10 [] Value.bool fun r114 =>
  M.chk (fun w => w.cell? (b10.add 258) = some (Sl.val x92)) <|
  M.chk (fun w => w.cell? (b89.add 258) = some (Sl.val x91)) <|
  M.ret r114)
  (M.ret false))
  (M.ret false))
  (M.ret false))
  (M.ret false))) 0)) 0)) fun J14 =>
  M.drew <|
  M.ite (!decide (r9.2 = 0))
  (J14 true)
  (M.ite (!decide (r12.2 = 0))
  (J14 true)
  (M.ldA Dfv.cs b10 fun v17 =>
  M.call Try.prog 7 [(.agg (Dfv.cs v17).toArray)] Value.bool fun r18 =>
  M.ite (!r18)
  (J14 true)
  (M.ldA Dfv.cs b10 fun v20 =>
  M.ldA Dfv.cs b1 fun v21 =>
  M.call Try.prog 18 [(.agg (Dfv.cs v20).toArray), (Sl.val p1)] Value.string fun r22 =>
  M.chk (fun w => Cells w b1 (Dfv.cs v21)) <|
  M.call Try.prog 18 [(.agg (Dfv.cs v21).toArray), (Sl.val p1)] Value.string fun r24 =>
  M.ite (!(ByteArray.toList r22 == ByteArray.toList r24))
  (J14 true)
  (M.ldA Dfv.cs b10 fun v26 =>
  M.ldA Dfv.cs b13 fun v27 =>
  M.call Try.prog 19 [(.agg (Dfv.cs v26).toArray), (.agg (Dfv.cs v27).toArray)] Value.bool fun r28 =>
  M.ite (!r28)
  (J14 true)
  (M.ld Sl.val (b10.add 258) fun x30 =>
  M.ldA Dfv.cs b1 fun v31 =>
  M.call Try.prog 20 [(.agg (Dfv.cs v31).toArray)] Sl.val fun r32 =>
  M.chk (fun w => w.cell? (b10.add 258) = some (Sl.val x30)) <|
  J14 (decide ((r32.len : Int) < (x30.len : Int)))))))))) fun J2 =>
  M.ldA Dfv.cs b1 fun v3 =>
  M.call Try.prog 11 [(.agg (Dfv.cs v3).toArray), (vI 200)] Value.bool fun r4 =>
  M.ite (!r4)
  (J2 true)
  (J2 (decide (60 < (p2.len : Int))))
/-- doublet/hopcroft.Small, function 6. -/
def hopcroft_Small (p0 : Dfv) : M (Dfv × Int) :=
  M.new 27 (Dfv.cs p0) fun b1 =>
  M.new 27 (Dfv.cs (⟨fun _ => 0, 0, Sl.nil, Sl.nil, Sl.nil⟩ : Dfv)) fun b2 =>
  M.ldA Dfv.cs b1 fun v3 =>
  M.call Try.prog 22 [(.agg (Dfv.cs v3).toArray)] (fun x : (Dfv × Int) => .tuple #[(.agg (Dfv.cs x.1).toArray), (vI x.2)]) fun r4 =>
  M.new 27 (Dfv.cs (⟨fun _ => 0, 0, Sl.nil, Sl.nil, Sl.nil⟩ : Dfv)) fun b5 =>
  M.stA b5 (Dfv.cs r4.1) <|
  M.ite (!decide (r4.2 = 0))
  (M.stA b2 (Dfv.cs (⟨(fun _ => 0), 0, Sl.nil, Sl.nil, Sl.nil⟩ : Dfv)) <|
  M.ldA Dfv.cs b2 fun v6 =>
  M.ret (v6, r4.2))
  (M.drew <|
  M.ldA Dfv.cs b5 fun v7 =>
  M.ldA Dfv.cs b5 fun v8 =>
  M.call Try.prog 8 [(.agg (Dfv.cs v8).toArray)] Sl.val fun r9 =>
  M.chk (fun w => Cells w b5 (Dfv.cs v7)) <|
  M.call Try.prog 23 [(.agg (Dfv.cs v7).toArray), (Sl.val r9)] (fun x : (Dfv × Int) => .tuple #[(.agg (Dfv.cs x.1).toArray), (vI x.2)]) fun r11 =>
  M.stA b2 (Dfv.cs r11.1) <|
  M.ldA Dfv.cs b2 fun v12 =>
  M.ret (v12, r11.2))
/-- doublet/dfa.Right, function 7. -/
def dfa_Right (p0 : Dfv) : M Bool :=
  M.new 27 (Dfv.cs p0) fun b1 =>
  M.ld Sl.val (b1.add 258) fun x2 =>
  M.ite (decide (1 ≤ (x2.len : Int)))
  (M.ite (decide ((x2.len : Int) ≤ 65536))
  (M.ld Sl.val (b1.add 257) fun x5 =>
  M.ite (decide ((x5.len : Int) = (x2.len : Int)))
  (M.ldA Ar.cs (b1.add 0) fun v7 =>
  M.ld vI (b1.add 256) fun x8 =>
  M.call Try.prog 24 [(.agg (Ar.cs v7).toArray), (vI x8)] Value.bool fun r9 =>
  M.ite r9
  (M.ld Sl.val (b1.add 259) fun x11 =>
  M.call Try.prog 25 [(Sl.val x11)] Value.bool fun r12 =>
  M.ite r12
  (M.ldA Dfv.cs b1 fun v14 =>
  M.call Try.prog 26 [(.agg (Dfv.cs v14).toArray)] Value.bool fun r15 =>
  M.ret r15)
  (M.ret false))
  (M.ret false))
  (M.ret false))
  (M.ret false))
  (M.ret false)
/-- doublet/hopcroft.Blocks, function 8. -/
def hopcroft_Blocks (p0 : Dfv) : M Sl :=
  M.new 27 (Dfv.cs p0) fun b1 =>
  M.ldA Dfv.cs b1 fun v2 =>
  M.call Try.prog 7 [(.agg (Dfv.cs v2).toArray)] Value.bool fun r3 =>
  M.ite (!r3)
  (M.ret Sl.nil)
  (M.ldA Dfv.cs b1 fun v4 =>
  M.call Try.prog 27 [(.agg (Dfv.cs v4).toArray)] vP fun r5 =>
  M.nn r5 fun a6 =>
  M.ld Sl.val (a6.add 3) fun x7 =>
  M.loop (fun (go9 : Int → M _) (q8 : Int) =>
  M.ite (decide (q8 < (x7.len : Int)))
  (M.ld vI (b1.add 256) fun x10 =>
  M.loop (fun (go12 : Int → M _) (q11 : Int) =>
  M.ite (decide (q11 < x10))
  (M.call Try.prog 28 [(vP r5), (vI q8), (vI q11)] vUnit fun _r13 =>
  go12 (wI (q11 + 1)))
  (go9 (wI (q8 + 1)))) 0)
  (M.loop (fun (go16 : Unit → M _) (q15 : Unit) =>
  M.nn r5 fun a17 =>
  M.ld Sl.val (a17.add 5) fun x18 =>
  M.ite (decide (0 < (x18.len : Int)))
  (M.call Try.prog 29 [(vP r5)] (fun x : (Int × Int) => .agg (Pr.cs x).toArray) fun r19 =>
  M.new 54 (Pr.cs (0, 0)) fun b20 =>
  M.stA b20 (Pr.cs r19) <|
  M.ixA b20 2 0 1 fun a21 =>
  M.ld vI a21 fun x22 =>
  M.ixA b20 2 1 1 fun a23 =>
  M.ld vI a23 fun x24 =>
  M.call Try.prog 30 [(vP r5), (vI x22), (vI x24)] vUnit fun _r25 =>
  go16 ())
  (M.nn r5 fun a26 =>
  M.ld Sl.val (a26.add 2) fun x27 =>
  M.call Try.prog 31 [(Sl.val x27)] Sl.val fun r28 =>
  M.ret r28)) ())) 0)
/-- doublet/hopcroft.Splits, function 9. -/
def hopcroft_Splits (p0 : Dfv) : M Int :=
  M.new 27 (Dfv.cs p0) fun b1 =>
  M.ldA Dfv.cs b1 fun v2 =>
  M.call Try.prog 8 [(.agg (Dfv.cs v2).toArray)] Sl.val fun r3 =>
  M.ite (decide ((r3.len : Int) = 0))
  (M.ret (-1))
  (M.drew <|
  M.ld Sl.val (b1.add 258) fun x4 =>
  M.call Try.prog 32 [(Sl.val r3)] vI fun r5 =>
  M.chk (fun w => w.cell? (b1.add 258) = some (Sl.val x4)) <|
  M.call Try.prog 32 [(Sl.val x4)] vI fun r7 =>
  M.ret (wI (r5 - r7)))
/-- doublet/doubletlaw25.knows, function 10. -/
def law25_knows  : M Bool :=
  M.new 3 [(vI 1)] fun b1 =>
  M.new 3 [(vI 2)] fun b2 =>
  M.new 3 [(vI 3)] fun b3 =>
  M.new 3 [(vI 3)] fun b4 =>
  M.new 3 [(vI 1)] fun b5 =>
  M.new 24 [(Sl.val (⟨some b1, 1, 1⟩ : Sl)), (Sl.val (⟨some b2, 1, 1⟩ : Sl)), (Sl.val (⟨some b3, 1, 1⟩ : Sl)), (Sl.val (⟨some b4, 1, 1⟩ : Sl)), (Sl.val (⟨some b5, 1, 1⟩ : Sl))] fun b6 =>
  M.new 3 [(vI 0), (vI 0), (vI 0), (vI 1), (vI 0)] fun b7 =>
  M.new 9 [(Value.string (⟨#[120]⟩ : ByteArray))] fun b8 =>
  M.new 27 (Dfv.cs (⟨fun _ => 0, 0, Sl.nil, Sl.nil, Sl.nil⟩ : Dfv)) fun b9 =>
  M.stA b9 (Dfv.cs (⟨(fun _ => 0), 1, (⟨some b6, 5, 5⟩ : Sl), (⟨some b7, 5, 5⟩ : Sl), (⟨some b8, 1, 1⟩ : Sl)⟩ : Dfv)) <|
  M.ldA Dfv.cs b9 fun v10 =>
  M.call Try.prog 6 [(.agg (Dfv.cs v10).toArray)] (fun x : (Dfv × Int) => .tuple #[(.agg (Dfv.cs x.1).toArray), (vI x.2)]) fun r11 =>
  M.new 27 (Dfv.cs (⟨fun _ => 0, 0, Sl.nil, Sl.nil, Sl.nil⟩ : Dfv)) fun b12 =>
  M.stA b12 (Dfv.cs r11.1) <|
  M.ldA Dfv.cs b9 fun v13 =>
  M.call Try.prog 8 [(.agg (Dfv.cs v13).toArray)] Sl.val fun r14 =>
  M.new 3 [(vI 0), (vI 1), (vI 2), (vI 3), (vI 0)] fun b15 =>
  M.call Try.prog 13 [(Sl.val r14), (Sl.val (⟨some b15, 5, 5⟩ : Sl))] Value.bool fun r16 =>
  M.ite r16
  (M.ldA Dfv.cs b9 fun v18 =>
  M.call Try.prog 9 [(.agg (Dfv.cs v18).toArray)] vI fun r19 =>
  M.ite (decide (r19 = 2))
  (M.ite (decide (r11.2 = 0))
  (M.ld Sl.val (b12.add 258) fun x22 =>
  M.ret (decide ((x22.len : Int) = 4)))
  (M.ret false))
  (M.ret false))
  (M.ret false)
/-- doublet/doubletref24.Right, function 11. -/
def r24_Right (p0 : Dfv) (p1 : Int) : M Bool :=
  M.new 27 (Dfv.cs p0) fun b1 =>
  M.ldA Dfv.cs b1 fun v2 =>
  M.call Try.prog 33 [(.agg (Dfv.cs v2).toArray)] Value.bool fun r3 =>
  M.ite r3
  (M.ld Sl.val (b1.add 258) fun x5 =>
  M.ret (decide ((x5.len : Int) ≤ p1)))
  (M.ret false)
/-- doublet/doubletref25.Small, function 12. -/
def r25_Small (p0 : Dfv) : M (Dfv × Int) :=
  M.new 27 (Dfv.cs p0) fun b1 =>
  M.new 27 (Dfv.cs (⟨fun _ => 0, 0, Sl.nil, Sl.nil, Sl.nil⟩ : Dfv)) fun b2 =>
  M.ldA Dfv.cs b1 fun v3 =>
  M.call Try.prog 33 [(.agg (Dfv.cs v3).toArray)] Value.bool fun r4 =>
  M.ite (!r4)
  (M.stA b2 (Dfv.cs (⟨(fun _ => 0), 0, Sl.nil, Sl.nil, Sl.nil⟩ : Dfv)) <|
  M.ldA Dfv.cs b2 fun v5 =>
  M.ret (v5, 6))
  (M.ldA Dfv.cs b1 fun v6 =>
  M.call Try.prog 34 [(.agg (Dfv.cs v6).toArray)] (fun x : Dfv => .agg (Dfv.cs x).toArray) fun r7 =>
  M.new 27 (Dfv.cs (⟨fun _ => 0, 0, Sl.nil, Sl.nil, Sl.nil⟩ : Dfv)) fun b8 =>
  M.stA b8 (Dfv.cs r7) <|
  M.drew <|
  M.ldA Dfv.cs b8 fun v9 =>
  M.ldA Dfv.cs b8 fun v10 =>
  M.call Try.prog 14 [(.agg (Dfv.cs v10).toArray)] Sl.val fun r11 =>
  M.chk (fun w => Cells w b8 (Dfv.cs v9)) <|
  M.call Try.prog 35 [(.agg (Dfv.cs v9).toArray), (Sl.val r11)] (fun x : (Dfv × Int) => .tuple #[(.agg (Dfv.cs x.1).toArray), (vI x.2)]) fun r13 =>
  M.stA b2 (Dfv.cs r13.1) <|
  M.ldA Dfv.cs b2 fun v14 =>
  M.ret (v14, r13.2))
/-- doublet/doubletref17.Same, function 13. -/
def r17_Same (p0 : Sl) (p1 : Sl) : M Bool :=
  M.ite (!decide ((p0.len : Int) = (p1.len : Int)))
  (M.ret false)
  (M.loop (fun (go2 : Int → M _) (q1 : Int) =>
  M.ite (decide (q1 < (p0.len : Int)))
  (M.drew <|
  M.ix p0 q1 1 fun a3 =>
  M.ld vI a3 fun x4 =>
  M.ix p1 q1 1 fun a5 =>
  M.ld vI a5 fun x6 =>
  M.ite (!decide (x4 = x6))
  (M.ret false)
  (go2 (wI (q1 + 1))))
  (M.ret true)) 0)
/-- doublet/doubletref24.Blocks, function 14. -/
def r24_Blocks (p0 : Dfv) : M Sl :=
  M.new 27 (Dfv.cs p0) fun b1 =>
  M.ldA Dfv.cs b1 fun v2 =>
  M.ld Sl.val (b1.add 258) fun x3 =>
  M.call Try.prog 36 [(.agg (Dfv.cs v2).toArray), (vI (x3.len : Int))] Sl.val fun r4 =>
  M.ret r4
/-- doublet/doubletref25.Splits, function 15. -/
def r25_Splits (p0 : Dfv) : M Int :=
  M.new 27 (Dfv.cs p0) fun b1 =>
  M.drew <|
  M.ldA Dfv.cs b1 fun v2 =>
  M.ld Sl.val (b1.add 258) fun x3 =>
  M.call Try.prog 14 [(.agg (Dfv.cs v2).toArray)] Sl.val fun r4 =>
  M.chk (fun w => w.cell? (b1.add 258) = some (Sl.val x3)) <|
  M.call Try.prog 37 [(Sl.val r4)] vI fun r6 =>
  M.chk (fun w => w.cell? (b1.add 258) = some (Sl.val x3)) <|
  M.call Try.prog 37 [(Sl.val x3)] vI fun r8 =>
  M.ret (wI (r6 - r8))
/-- doublet/doubletref20.Same, function 16. -/
def r20_Same (p0 : Dfv) (p1 : Dfv) : M Bool :=
  M.new 27 (Dfv.cs p0) fun b1 =>
  M.new 27 (Dfv.cs p1) fun b2 =>
  M.join (fun (q21 : Bool) =>
  M.ite q21
  (M.ret false)
  (M.loop (fun (go23 : Int → M _) (q22 : Int) =>
  M.ld Sl.val (b1.add 257) fun x24 =>
  M.ite (decide (q22 < (x24.len : Int)))
  (M.drew <|
  M.ld Sl.val (b1.add 257) fun x25 =>
  M.ix x25 q22 1 fun a26 =>
  M.ld Sl.val a26 fun x27 =>
  M.ld Sl.val (b2.add 257) fun x28 =>
  M.ix x28 q22 1 fun a29 =>
  M.ld Sl.val a29 fun x30 =>
  M.call Try.prog 13 [(Sl.val x27), (Sl.val x30)] Value.bool fun r31 =>
  M.chk (fun w => w.cell? (b2.add 257) = some (Sl.val x28)) <|
  M.chk (fun w => w.cell? (b1.add 257) = some (Sl.val x25)) <|
  M.ite (!r31)
  (M.ret false)
  (go23 (wI (q22 + 1))))
  (M.ret true)) 0)) fun J3 =>
  M.ldA Ar.cs (b1.add 0) fun v4 =>
  M.ldA Ar.cs (b2.add 0) fun v5 =>
  M.look Try.prog (eqAgg .neq 22 (.agg (Ar.cs v4).toArray) (.agg (Ar.cs v5).toArray)) Value.bool fun x6 =>
  M.ite x6
  (J3 true)
  (M.ld vI (b1.add 256) fun x8 =>
  M.ld vI (b2.add 256) fun x9 =>
  M.ite (!decide (x8 = x9))
  (J3 true)
  (M.ld Sl.val (b1.add 257) fun x11 =>
  M.ld Sl.val (b2.add 257) fun x12 =>
  M.ite (!decide ((x11.len : Int) = (x12.len : Int)))
  (J3 true)
  (M.ld Sl.val (b1.add 258) fun x14 =>
  M.ld Sl.val (b2.add 258) fun x15 =>
  M.call Try.prog 13 [(Sl.val x14), (Sl.val x15)] Value.bool fun r16 =>
  M.ite (!r16)
  (J3 true)
  (M.ld Sl.val (b1.add 259) fun x18 =>
  M.ld Sl.val (b2.add 259) fun x19 =>
  M.call Try.prog 38 [(Sl.val x18), (Sl.val x19)] Value.bool fun r20 =>
  J3 (!r20)))))
/-- doublet/moore.Blocks, function 17. -/
def moore_Blocks (p0 : Dfv) : M Sl :=
  M.new 27 (Dfv.cs p0) fun b1 =>
  M.ldA Dfv.cs b1 fun v2 =>
  M.call Try.prog 39 [(.agg (Dfv.cs v2).toArray), (vI 65536)] Sl.val fun r3 =>
  M.ret r3
/-- doublet/dfa.Name, function 18. -/
def dfa_Name (p0 : Dfv) (p1 : Sl) : M ByteArray :=
  M.new 27 (Dfv.cs p0) fun b1 =>
  M.ldA Dfv.cs b1 fun v2 =>
  M.call Try.prog 40 [(.agg (Dfv.cs v2).toArray), (Sl.val p1)] vI fun r3 =>
  M.ite (decide (0 < r3))
  (M.ld Sl.val (b1.add 259) fun x4 =>
  M.ix x4 (wI (r3 - 1)) 1 fun a5 =>
  M.ld Value.string a5 fun x6 =>
  M.ret x6)
  (M.ret (⟨#[]⟩ : ByteArray))
/-- doublet/dfa.Same, function 19. -/
def dfa_Same (p0 : Dfv) (p1 : Dfv) : M Bool :=
  M.new 27 (Dfv.cs p0) fun b1 =>
  M.new 27 (Dfv.cs p1) fun b2 =>
  M.ldA Ar.cs (b1.add 0) fun v3 =>
  M.ldA Ar.cs (b2.add 0) fun v4 =>
  M.look Try.prog (eqAgg .eql 22 (.agg (Ar.cs v3).toArray) (.agg (Ar.cs v4).toArray)) Value.bool fun x5 =>
  M.ite x5
  (M.ld vI (b1.add 256) fun x7 =>
  M.ld vI (b2.add 256) fun x8 =>
  M.ite (decide (x7 = x8))
  (M.ld Sl.val (b1.add 258) fun x10 =>
  M.ld Sl.val (b2.add 258) fun x11 =>
  M.call Try.prog 41 [(Sl.val x10), (Sl.val x11)] Value.bool fun r12 =>
  M.ite r12
  (M.ld Sl.val (b1.add 259) fun x14 =>
  M.ld Sl.val (b2.add 259) fun x15 =>
  M.call Try.prog 42 [(Sl.val x14), (Sl.val x15)] Value.bool fun r16 =>
  M.ite r16
  (M.ld Sl.val (b1.add 257) fun x18 =>
  M.ld Sl.val (b2.add 257) fun x19 =>
  M.call Try.prog 43 [(Sl.val x18), (Sl.val x19), (.func (.func 41) #[] #[])] Value.bool fun r20 =>
  M.ret r20)
  (M.ret false))
  (M.ret false))
  (M.ret false))
  (M.ret false)
/-- doublet/dfa.Reach, function 20. -/
def dfa_Reach (p0 : Dfv) : M Sl :=
  M.new 27 (Dfv.cs p0) fun b1 =>
  M.ldA Dfv.cs b1 fun v2 =>
  M.call Try.prog 7 [(.agg (Dfv.cs v2).toArray)] Value.bool fun r3 =>
  M.ite (!r3)
  (M.ret Sl.nil)
  (M.new 24 [(Sl.val Sl.nil)] fun b4 =>
  M.ld Sl.val (b1.add 258) fun x5 =>
  M.new 3 [(vI 0)] fun b6 =>
  M.call Try.prog 44 [(vI (x5.len : Int)), (Sl.val (⟨some b6, 1, 1⟩ : Sl)), (.func (.func 45) #[] #[(vA b1)])] (fun v : Value => v) fun r7 =>
  M.range Try.prog r7 (fun y8 : Int => [(vI y8)]) (fun y8 =>
  M.ld Sl.val b4 fun x9 =>
  M.new 3 [(vI y8)] fun b10 =>
  M.run Try.prog (Builtin.append_ #[24, 24] 24 #[(Sl.val x9), (Sl.val (⟨some b10, 1, 1⟩ : Sl))]) Sl.val fun s11 =>
  M.st b4 (Sl.val s11) <|
  M.ret none) fun __j =>
  M.ld Sl.val b4 fun x12 =>
  M.ret x12)
/-- doublet/quotient.Stable, function 21. -/
def quotient_Stable (p0 : Dfv) (p1 : Sl) : M Bool :=
  M.new 27 (Dfv.cs p0) fun b1 =>
  M.drew <|
  M.ldA Dfv.cs b1 fun v2 =>
  M.call Try.prog 7 [(.agg (Dfv.cs v2).toArray)] Value.bool fun r3 =>
  M.ite r3
  (M.ld Sl.val (b1.add 258) fun x5 =>
  M.ite (decide ((p1.len : Int) = (x5.len : Int)))
  (M.ldA Dfv.cs b1 fun v7 =>
  M.call Try.prog 31 [(Sl.val p1)] Sl.val fun r8 =>
  M.chk (fun w => Cells w b1 (Dfv.cs v7)) <|
  M.chk (fun w => w.cell? (b1.add 258) = some (Sl.val x5)) <|
  M.call Try.prog 46 [(.agg (Dfv.cs v7).toArray), (Sl.val r8)] Value.bool fun r11 =>
  M.chk (fun w => w.cell? (b1.add 258) = some (Sl.val x5)) <|
  M.ret r11)
  (M.ret false))
  (M.ret false)
/-- doublet/dfa.Trim, function 22. -/
def dfa_Trim (p0 : Dfv) : M (Dfv × Int) :=
  M.new 27 (Dfv.cs p0) fun b1 =>
  M.new 27 (Dfv.cs (⟨fun __ => 0, 0, Sl.nil, Sl.nil, Sl.nil⟩ : Dfv)) fun b2 =>
  M.drew <|
  M.ldA Dfv.cs b1 fun v3 =>
  M.ldA Dfv.cs b1 fun v4 =>
  M.call Try.prog 20 [(.agg (Dfv.cs v4).toArray)] Sl.val fun r5 =>
  M.chk (fun w => Cells w b1 (Dfv.cs v3)) <|
  M.call Try.prog 47 [(.agg (Dfv.cs v3).toArray), (Sl.val r5)] (fun x : (Dfv × Int) => .tuple #[(.agg (Dfv.cs x.1).toArray), (vI x.2)]) fun r7 =>
  M.stA b2 (Dfv.cs r7.1) <|
  M.ldA Dfv.cs b2 fun v8 =>
  M.ret (v8, r7.2)
/-- doublet/quotient.Of, function 23. -/
def quotient_Of (p0 : Dfv) (p1 : Sl) : M (Dfv × Int) :=
  M.new 27 (Dfv.cs p0) fun b1 =>
  M.new 27 (Dfv.cs (⟨fun _ => 0, 0, Sl.nil, Sl.nil, Sl.nil⟩ : Dfv)) fun b2 =>
  M.ldA Dfv.cs b1 fun v3 =>
  M.call Try.prog 7 [(.agg (Dfv.cs v3).toArray)] Value.bool fun r4 =>
  M.ite (!r4)
  (M.stA b2 (Dfv.cs (⟨(fun _ => 0), 0, Sl.nil, Sl.nil, Sl.nil⟩ : Dfv)) <|
  M.ldA Dfv.cs b2 fun v5 =>
  M.ret (v5, 6))
  (M.ldA Dfv.cs b1 fun v6 =>
  M.call Try.prog 21 [(.agg (Dfv.cs v6).toArray), (Sl.val p1)] Value.bool fun r7 =>
  M.ite (!r7)
  (M.stA b2 (Dfv.cs (⟨(fun _ => 0), 0, Sl.nil, Sl.nil, Sl.nil⟩ : Dfv)) <|
  M.ldA Dfv.cs b2 fun v8 =>
  M.ret (v8, 1))
  (M.call Try.prog 31 [(Sl.val p1)] Sl.val fun r9 =>
  M.drew <|
  M.ldA Ar.cs (b1.add 0) fun v10 =>
  M.ld vI (b1.add 256) fun x11 =>
  M.ld Sl.val (b1.add 259) fun x12 =>
  M.both
  (M.call Try.prog 48 [(Sl.val x12)] Sl.val fun r13 =>
  M.chk (fun w => w.cell? (b1.add 256) = some (vI x11)) <|
  M.chk (fun w => Cells w (b1.add 0) (Ar.cs v10)) <|
  M.new 27 (Dfv.cs (⟨fun _ => 0, 0, Sl.nil, Sl.nil, Sl.nil⟩ : Dfv)) fun b16 =>
  M.chk (fun w => w.cell? (b1.add 256) = some (vI x11)) <|
  M.chk (fun w => Cells w (b1.add 0) (Ar.cs v10)) <|
  M.stA b16 (Dfv.cs (⟨v10, x11, Sl.nil, Sl.nil, r13⟩ : Dfv)) <|
  M.call Try.prog 49 [(Sl.val r9)] Sl.val fun r19 =>
  M.loop (fun (go21 : Int → M _) (q20 : Int) =>
  M.ite (decide (q20 < (r19.len : Int)))
  (M.ix r19 q20 1 fun a22 =>
  M.ld vI a22 fun x23 =>
  M.ld vI (b1.add 256) fun x24 =>
  M.run Try.prog (Instr.makeSlice 24 (vI x24) (vI x24)) Sl.val fun s25 =>
  M.ld Sl.val (b1.add 257) fun x26 =>
  M.ix x26 x23 1 fun a27 =>
  M.ld Sl.val a27 fun x28 =>
  M.loop (fun (go30 : Int → M _) (q29 : Int) =>
  M.ite (decide (q29 < (x28.len : Int)))
  (M.ix x28 q29 1 fun a31 =>
  M.ld vI a31 fun x32 =>
  M.ix r9 x32 1 fun a33 =>
  M.ld vI a33 fun x34 =>
  M.ix s25 q29 1 fun a35 =>
  M.st a35 (vI x34) <|
  go30 (wI (q29 + 1)))
  (M.ld Sl.val (b16.add 257) fun x36 =>
  M.new 24 [(Sl.val s25)] fun b37 =>
  M.run Try.prog (Builtin.append_ #[23, 23] 23 #[(Sl.val x36), (Sl.val (⟨some b37, 1, 1⟩ : Sl))]) Sl.val fun s38 =>
  M.st (b16.add 257) (Sl.val s38) <|
  M.drew <|
  M.ld Sl.val (b16.add 258) fun x39 =>
  M.ld Sl.val (b1.add 258) fun x40 =>
  M.ix x40 x23 1 fun a41 =>
  M.ld vI a41 fun x42 =>
  M.new 3 [(vI x42)] fun b43 =>
  M.chk (fun w => w.cell? (b1.add 258) = some (Sl.val x40)) <|
  M.chk (fun w => w.cell? (b16.add 258) = some (Sl.val x39)) <|
  M.run Try.prog (Builtin.append_ #[24, 24] 24 #[(Sl.val x39), (Sl.val (⟨some b43, 1, 1⟩ : Sl))]) Sl.val fun s46 =>
  M.chk (fun w => w.cell? (b1.add 258) = some (Sl.val x40)) <|
  M.st (b16.add 258) (Sl.val s46) <|
  go21 (wI (q20 + 1)))) 0)
  (M.ldA Dfv.cs b16 fun v49 =>
  M.stA b2 (Dfv.cs v49) <|
  M.ldA Dfv.cs b2 fun v50 =>
  M.ret (v50, 0))) 0)
  (M.new 27 (Dfv.cs (⟨fun _ => 0, 0, Sl.nil, Sl.nil, Sl.nil⟩ : Dfv)) fun b52 =>
  M.chk (fun w => w.cell? (b1.add 259) = some (Sl.val x12)) <|
  M.chk (fun w => w.cell? (b1.add 256) = some (vI x11)) <|
  M.chk (fun w => Cells w (b1.add 0) (Ar.cs v10)) <|
  M.call Try.prog 48 [(Sl.val x12)] Sl.val fun r56 =>
  M.chk (fun w => w.cell? (b1.add 256) = some (vI x11)) <|
  M.chk (fun w => Cells w (b1.add 0) (Ar.cs v10)) <|
  M.stA b52 (Dfv.cs (⟨v10, x11, Sl.nil, Sl.nil, r56⟩ : Dfv)) <|
  M.call Try.prog 49 [(Sl.val r9)] Sl.val fun r59 =>
  M.loop (fun (go61 : Int → M _) (q60 : Int) =>
  M.ite (decide (q60 < (r59.len : Int)))
  (M.ix r59 q60 1 fun a62 =>
  M.ld vI a62 fun x63 =>
  M.ld vI (b1.add 256) fun x64 =>
  M.run Try.prog (Instr.makeSlice 24 (vI x64) (vI x64)) Sl.val fun s65 =>
  M.ld Sl.val (b1.add 257) fun x66 =>
  M.ix x66 x63 1 fun a67 =>
  M.ld Sl.val a67 fun x68 =>
  M.loop (fun (go70 : Int → M _) (q69 : Int) =>
  M.ite (decide (q69 < (x68.len : Int)))
  (M.ix x68 q69 1 fun a71 =>
  M.ld vI a71 fun x72 =>
  M.ix r9 x72 1 fun a73 =>
  M.ld vI a73 fun x74 =>
  M.ix s65 q69 1 fun a75 =>
  M.st a75 (vI x74) <|
  go70 (wI (q69 + 1)))
  (M.ld Sl.val (b52.add 257) fun x76 =>
  M.new 24 [(Sl.val s65)] fun b77 =>
  M.run Try.prog (Builtin.append_ #[23, 23] 23 #[(Sl.val x76), (Sl.val (⟨some b77, 1, 1⟩ : Sl))]) Sl.val fun s78 =>
  M.st (b52.add 257) (Sl.val s78) <|
  M.drew <|
  M.ld Sl.val (b52.add 258) fun x79 =>
  M.ld Sl.val (b1.add 258) fun x80 =>
  M.ix x80 x63 1 fun a81 =>
  M.ld vI a81 fun x82 =>
  M.new 3 [(vI x82)] fun b83 =>
  M.chk (fun w => w.cell? (b1.add 258) = some (Sl.val x80)) <|
  M.chk (fun w => w.cell? (b52.add 258) = some (Sl.val x79)) <|
  M.run Try.prog (Builtin.append_ #[24, 24] 24 #[(Sl.val x79), (Sl.val (⟨some b83, 1, 1⟩ : Sl))]) Sl.val fun s86 =>
  M.chk (fun w => w.cell? (b1.add 258) = some (Sl.val x80)) <|
  M.st (b52.add 258) (Sl.val s86) <|
  go61 (wI (q60 + 1)))) 0)
  (M.ldA Dfv.cs b52 fun v89 =>
  M.stA b2 (Dfv.cs v89) <|
  M.ldA Dfv.cs b2 fun v90 =>
  M.ret (v90, 0))) 0)))
/-- doublet/parts.Right, function 24. -/
def parts_Right (p0 : (Nat → Int)) (p1 : Int) : M Bool :=
  M.new 22 (Ar.cs p0) fun b1 =>
  M.ldA Ar.cs b1 fun v2 =>
  M.call Try.prog 50 [(.agg (Ar.cs v2).toArray)] (fun x : ((Nat → Int) × Int) => .tuple #[(.agg (Ar.cs x.1).toArray), (vI x.2)]) fun r3 =>
  M.new 22 (Ar.cs (fun __ => 0)) fun b4 =>
  M.stA b4 (Ar.cs r3.1) <|
  M.ldA Ar.cs b4 fun v5 =>
  M.ldA Ar.cs b1 fun v6 =>
  M.look Try.prog (eqAgg .eql 22 (.agg (Ar.cs v5).toArray) (.agg (Ar.cs v6).toArray)) Value.bool fun x7 =>
  M.ite x7
  (M.ret (decide (r3.2 = p1)))
  (M.ret false)
/-- doublet/dfa.names, function 25. -/
def dfa_names (p0 : Sl) : M Bool :=
  M.ite (decide (64 < (p0.len : Int)))
  (M.ret false)
  (M.loop (fun (go2 : Int → M _) (q1 : Int) =>
  M.ite (decide (q1 < (p0.len : Int)))
  (M.ix p0 q1 1 fun a3 =>
  M.ld Value.string a3 fun x4 =>
  M.join (fun (q10 : Bool) =>
  M.ite q10
  (M.ret false)
  (go2 (wI (q1 + 1)))) fun J5 =>
  M.call Try.prog 51 [(Value.string x4)] Value.bool fun r6 =>
  M.ite (!r6)
  (J5 true)
  (M.cut p0 0 q1 (p0.cap : Int) 1 fun s8 =>
  M.call Try.prog 52 [(Sl.val s8), (Value.string x4)] Value.bool fun r9 =>
  J5 r9))
  (M.ret true)) 0)
/-- doublet/dfa.rows, function 26. -/
def dfa_rows (p0 : Dfv) : M Bool :=
  M.new 27 (Dfv.cs p0) fun b1 =>
  M.ld Sl.val (b1.add 258) fun x2 =>
  M.ld Sl.val (b1.add 257) fun x3 =>
  M.loop (fun (go5 : Int → M _) (q4 : Int) =>
  M.ite (decide (q4 < (x3.len : Int)))
  (M.ix x3 q4 1 fun a6 =>
  M.ld Sl.val a6 fun x7 =>
  M.join (fun (q19 : Bool) =>
  M.ite q19
  (M.ret false)
  (M.loop (fun (go21 : Int → M _) (q20 : Int) =>
  M.ite (decide (q20 < (x7.len : Int)))
  (M.ix x7 q20 1 fun a22 =>
  M.ld vI a22 fun x23 =>
  M.join (fun (q26 : Bool) =>
  M.ite q26
  (M.ret false)
  (go21 (wI (q20 + 1)))) fun J24 =>
  M.ite (decide (x23 < 0))
  (J24 true)
  (J24 (decide ((x2.len : Int) ≤ x23))))
  (go5 (wI (q4 + 1)))) 0)) fun J8 =>
  M.drew <|
  M.ld vI (b1.add 256) fun x9 =>
  M.ite (!decide ((x7.len : Int) = x9))
  (J8 true)
  (M.ld Sl.val (b1.add 258) fun x11 =>
  M.ix x11 q4 1 fun a12 =>
  M.ld vI a12 fun x13 =>
  M.ite (decide (x13 < 0))
  (J8 true)
  (M.ld Sl.val (b1.add 258) fun x15 =>
  M.ix x15 q4 1 fun a16 =>
  M.ld vI a16 fun x17 =>
  M.ld Sl.val (b1.add 259) fun x18 =>
  J8 (decide ((x18.len : Int) < x17)))))
  (M.ret true)) 0
/-- doublet/hopcroft.newParter, function 27. -/
def hopcroft_newParter (p0 : Dfv) : M (Option Addr) :=
  M.new 27 (Dfv.cs p0) fun b1 =>
  M.ld Sl.val (b1.add 258) fun x2 =>
  M.deep Try.prog (regOps 2 (Try.f27.body.getD .skip)) (fun ρ => ρ 3 = (vI (x2.len : Int)) ∧ ρ 1 = (vA b1) ∧ True) (fun ρ ρ2 (s : Addr) => ∃ j, ρ2 = (fun s j r => upd (mask r j 134184976) 4 (vA s)) s j ρ) fun (q3 : Addr) =>
  M.loop (fun (go5 : Int → M _) (q4 : Int) =>
  M.ite (decide (q4 < (x2.len : Int)))
  (M.ld vP q3 fun x6 =>
  M.nn x6 fun a7 =>
  M.ld Sl.val (a7.add 0) fun x8 =>
  M.ix x8 q4 1 fun a9 =>
  M.st a9 (vI q4) <|
  go5 (wI (q4 + 1)))
  (M.ld vP q3 fun x10 =>
  M.nn x10 fun a11 =>
  M.ld Sl.val (a11.add 0) fun x12 =>
  M.call Try.prog 53 [(Sl.val x12), (.func (.func 54) #[] #[(vA q3)])] vUnit fun _r13 =>
  M.ld vP q3 fun x14 =>
  M.nn x14 fun a15 =>
  M.ld Sl.val (a15.add 0) fun x16 =>
  M.loop (fun (go18 : Int → M _) (q17 : Int) =>
  M.ite (decide (q17 < (x16.len : Int)))
  (M.ix x16 q17 1 fun a19 =>
  M.ld vI a19 fun x20 =>
  M.ld vP q3 fun x21 =>
  M.nn x21 fun a22 =>
  M.ld Sl.val (a22.add 1) fun x23 =>
  M.ix x23 x20 1 fun a24 =>
  M.st a24 (vI q17) <|
  M.join (fun (_q47 : Unit) =>
  M.drew <|
  M.ld vP q3 fun x48 =>
  M.nn x48 fun a49 =>
  M.ld Sl.val (a49.add 3) fun x50 =>
  M.ld vP q3 fun x51 =>
  M.nn x51 fun a52 =>
  M.ld Sl.val (a52.add 2) fun x53 =>
  M.ix x53 x20 1 fun a54 =>
  M.ld vI a54 fun x55 =>
  M.ix x50 x55 3 fun a56 =>
  M.ld vI (a56.add 1) fun x57 =>
  M.ix x50 x55 3 fun a58 =>
  M.st (a58.add 1) (vI (wI (x57 + 1))) <|
  go18 (wI (q17 + 1))) fun J25 =>
  M.ld vP q3 fun x26 =>
  M.nn x26 fun a27 =>
  M.ld Sl.val (a27.add 2) fun x28 =>
  M.ix x28 x20 1 fun a29 =>
  M.ld vI a29 fun x30 =>
  M.ld vP q3 fun x31 =>
  M.nn x31 fun a32 =>
  M.ld Sl.val (a32.add 3) fun x33 =>
  M.ite (decide (x30 = (x33.len : Int)))
  (M.drew <|
  M.ld vP q3 fun x34 =>
  M.ld vP q3 fun x35 =>
  M.nn x35 fun a36 =>
  M.ld Sl.val (a36.add 3) fun x37 =>
  M.new 75 ((Spv.cs (⟨q17, q17, 0⟩ : Spv))) fun b38 =>
  M.chk (fun w => w.cell? (a36.add 3) = some (Sl.val x37)) <|
  M.chk (fun w => w.cell? q3 = some (vP x35)) <|
  M.chk (fun w => w.cell? q3 = some (vP x34)) <|
  M.run Try.prog (Builtin.append_ #[47, 47] 47 #[(Sl.val x37), (Sl.val (⟨some b38, 1, 1⟩ : Sl))]) Sl.val fun s42 =>
  M.chk (fun w => w.cell? q3 = some (vP x35)) <|
  M.chk (fun w => w.cell? q3 = some (vP x34)) <|
  M.nn x34 fun a45 =>
  M.st (a45.add 3) (Sl.val s42) <|
  J25 ())
  (J25 ()))
  (M.drew <|
  M.ld vP q3 fun x59 =>
  M.ld vI (b1.add 256) fun x60 =>
  M.run Try.prog (Instr.makeSlice 48 (vI x60) (vI x60)) Sl.val fun s61 =>
  M.chk (fun w => w.cell? q3 = some (vP x59)) <|
  M.nn x59 fun a63 =>
  M.st (a63.add 4) (Sl.val s61) <|
  M.ld vI (b1.add 256) fun x64 =>
  M.loop (fun (go66 : Int → M _) (q65 : Int) =>
  M.ite (decide (q65 < x64))
  (M.drew <|
  M.ld vP q3 fun x67 =>
  M.nn x67 fun a68 =>
  M.ld Sl.val (a68.add 4) fun x69 =>
  M.run Try.prog (Instr.makeSlice 23 (vI (x2.len : Int)) (vI (x2.len : Int))) Sl.val fun s70 =>
  M.chk (fun w => w.cell? (a68.add 4) = some (Sl.val x69)) <|
  M.chk (fun w => w.cell? q3 = some (vP x67)) <|
  M.ix x69 q65 1 fun a73 =>
  M.st a73 (Sl.val s70) <|
  M.ld Sl.val (b1.add 257) fun x74 =>
  M.loop (fun (go76 : Int → M _) (q75 : Int) =>
  M.ite (decide (q75 < (x74.len : Int)))
  (M.ix x74 q75 1 fun a77 =>
  M.ld Sl.val a77 fun x78 =>
  M.drew <|
  M.ld vP q3 fun x79 =>
  M.nn x79 fun a80 =>
  M.ld Sl.val (a80.add 4) fun x81 =>
  M.ix x81 q65 1 fun a82 =>
  M.ld Sl.val a82 fun x83 =>
  M.ix x78 q65 1 fun a84 =>
  M.ld vI a84 fun x85 =>
  M.ld vP q3 fun x86 =>
  M.nn x86 fun a87 =>
  M.ld Sl.val (a87.add 4) fun x88 =>
  M.ix x88 q65 1 fun a89 =>
  M.ld Sl.val a89 fun x90 =>
  M.ix x78 q65 1 fun a91 =>
  M.ld vI a91 fun x92 =>
  M.ix x90 x92 1 fun a93 =>
  M.ld Sl.val a93 fun x94 =>
  M.new 3 [(vI q75)] fun b95 =>
  M.chk (fun w => w.cell? a93 = some (Sl.val x94)) <|
  M.chk (fun w => w.cell? a91 = some (vI x92)) <|
  M.chk (fun w => w.cell? a89 = some (Sl.val x90)) <|
  M.chk (fun w => w.cell? (a87.add 4) = some (Sl.val x88)) <|
  M.chk (fun w => w.cell? q3 = some (vP x86)) <|
  M.chk (fun w => w.cell? a84 = some (vI x85)) <|
  M.chk (fun w => w.cell? a82 = some (Sl.val x83)) <|
  M.chk (fun w => w.cell? (a80.add 4) = some (Sl.val x81)) <|
  M.chk (fun w => w.cell? q3 = some (vP x79)) <|
  M.run Try.prog (Builtin.append_ #[24, 24] 24 #[(Sl.val x94), (Sl.val (⟨some b95, 1, 1⟩ : Sl))]) Sl.val fun s105 =>
  M.chk (fun w => w.cell? a91 = some (vI x92)) <|
  M.chk (fun w => w.cell? a89 = some (Sl.val x90)) <|
  M.chk (fun w => w.cell? (a87.add 4) = some (Sl.val x88)) <|
  M.chk (fun w => w.cell? q3 = some (vP x86)) <|
  M.chk (fun w => w.cell? a84 = some (vI x85)) <|
  M.chk (fun w => w.cell? a82 = some (Sl.val x83)) <|
  M.chk (fun w => w.cell? (a80.add 4) = some (Sl.val x81)) <|
  M.chk (fun w => w.cell? q3 = some (vP x79)) <|
  M.ix x83 x85 1 fun a114 =>
  M.st a114 (Sl.val s105) <|
  go76 (wI (q75 + 1)))
  (go66 (wI (q65 + 1)))) 0)
  (M.ld vP q3 fun x116 =>
  M.ret x116)) 0)) 0)) 0
/-- (*doublet/hopcroft.parter).ask, function 28. -/
def hopcroft_parter_ask (p0 : Option Addr) (p1 : Int) (p2 : Int) : M Unit :=
  M.nn p0 fun a1 =>
  M.ld Value.map (a1.add 6) fun x2 =>
  M.look Try.prog (Instr.lookup 50 (Value.map x2) (.agg (Pr.cs (⟨p1, p2⟩ : (Int × Int))).toArray) false) vI fun x3 =>
  M.ite (decide (x3 = 0))
  (M.nn p0 fun a4 =>
  M.ld Value.map (a4.add 6) fun x5 =>
  M.runU Try.prog (Instr.mapUpdate 50 (Value.map x5) (.agg (Pr.cs (⟨p1, p2⟩ : (Int × Int))).toArray) (vI 1)) <|
  M.nn p0 fun a6 =>
  M.ld Sl.val (a6.add 5) fun x7 =>
  M.new 54 ((Pr.cs (⟨p1, p2⟩ : (Int × Int)))) fun b8 =>
  M.run Try.prog (Builtin.append_ #[49, 49] 49 #[(Sl.val x7), (Sl.val (⟨some b8, 1, 1⟩ : Sl))]) Sl.val fun s9 =>
  M.nn p0 fun a10 =>
  M.st (a10.add 5) (Sl.val s9) <|
  M.ret ())
  (M.ret ())
/-- (*doublet/hopcroft.parter).take, function 29. -/
def hopcroft_parter_take (p0 : Option Addr) : M (Int × Int) :=
  M.new 54 (Pr.cs (0, 0)) fun b1 =>
  M.nn p0 fun a2 =>
  M.ld Sl.val (a2.add 5) fun x3 =>
  M.nn p0 fun a4 =>
  M.ld Sl.val (a4.add 5) fun x5 =>
  M.ix x5 (wI ((x3.len : Int) - 1)) 2 fun a6 =>
  M.ldA Pr.cs a6 fun v7 =>
  M.new 54 (Pr.cs (0, 0)) fun b8 =>
  M.stA b8 (Pr.cs v7) <|
  M.nn p0 fun a9 =>
  M.ld Sl.val (a9.add 5) fun x10 =>
  M.cut x10 0 (wI ((x3.len : Int) - 1)) (wI ((x3.len : Int) - 1)) 2 fun s11 =>
  M.nn p0 fun a12 =>
  M.st (a12.add 5) (Sl.val s11) <|
  M.drew <|
  M.nn p0 fun a13 =>
  M.ld Value.map (a13.add 6) fun x14 =>
  M.ldA Pr.cs b8 fun v15 =>
  M.runU Try.prog (Instr.mapUpdate 50 (Value.map x14) (.agg (Pr.cs v15).toArray) (vI 0)) <|
  M.ldA Pr.cs b8 fun v16 =>
  M.stA b1 (Pr.cs v16) <|
  M.ldA Pr.cs b1 fun v17 =>
  M.ret v17
/-- (*doublet/hopcroft.parter).by, function 30. -/
def hopcroft_parter_by (p0 : Option Addr) (p1 : Int) (p2 : Int) : M Unit :=
  M.call Try.prog 55 [(vP p0), (vI p1)] Sl.val fun r1 =>
  M.loop (fun (go3 : (Sl × Int) → M _) (q2 : (Sl × Int)) =>
  M.ite (decide (q2.2 < (r1.len : Int)))
  (M.ix r1 q2.2 1 fun a4 =>
  M.ld vI a4 fun x5 =>
  M.nn p0 fun a6 =>
  M.ld Sl.val (a6.add 4) fun x7 =>
  M.ix x7 p2 1 fun a8 =>
  M.ld Sl.val a8 fun x9 =>
  M.ix x9 x5 1 fun a10 =>
  M.ld Sl.val a10 fun x11 =>
  M.run Try.prog (Builtin.append_ #[24, 24] 24 #[(Sl.val q2.1), (Sl.val x11)]) Sl.val fun s12 =>
  go3 (s12, wI (q2.2 + 1)))
  (M.loop (fun (go14 : (Sl × Int) → M _) (q13 : (Sl × Int)) =>
  M.ite (decide (q13.2 < (q2.1.len : Int)))
  (M.ix q2.1 q13.2 1 fun a15 =>
  M.ld vI a15 fun x16 =>
  M.join (fun (q33 : Sl) =>
  M.call Try.prog 56 [(vP p0), (vI x16)] Value.bool fun _r34 =>
  go14 (q33, wI (q13.2 + 1))) fun J17 =>
  M.drew <|
  M.nn p0 fun a18 =>
  M.ld Sl.val (a18.add 3) fun x19 =>
  M.nn p0 fun a20 =>
  M.ld Sl.val (a20.add 2) fun x21 =>
  M.ix x21 x16 1 fun a22 =>
  M.ld vI a22 fun x23 =>
  M.ix x19 x23 3 fun a24 =>
  M.ld vI (a24.add 2) fun x25 =>
  M.ite (decide (x25 = 0))
  (M.nn p0 fun a26 =>
  M.ld Sl.val (a26.add 2) fun x27 =>
  M.ix x27 x16 1 fun a28 =>
  M.ld vI a28 fun x29 =>
  M.new 3 [(vI x29)] fun b30 =>
  M.run Try.prog (Builtin.append_ #[24, 24] 24 #[(Sl.val q13.1), (Sl.val (⟨some b30, 1, 1⟩ : Sl))]) Sl.val fun s31 =>
  J17 s31)
  (J17 q13.1))
  (M.loop (fun (go36 : Int → M _) (q35 : Int) =>
  M.ite (decide (q35 < (q13.1.len : Int)))
  (M.ix q13.1 q35 1 fun a37 =>
  M.ld vI a37 fun x38 =>
  M.call Try.prog 57 [(vP p0), (vI x38)] vI fun r39 =>
  M.ite (decide (r39 < 0))
  (go36 (wI (q35 + 1)))
  (M.nn p0 fun a40 =>
  M.ld vI (a40.add 7) fun x41 =>
  M.loop (fun (go43 : Int → M _) (q42 : Int) =>
  M.ite (decide (q42 < x41))
  (M.call Try.prog 58 [(vP p0), (vI x38), (vI r39), (vI q42)] vUnit fun _r44 =>
  go43 (wI (q42 + 1)))
  (go36 (wI (q35 + 1)))) 0))
  (M.ret ())) 0)) (Sl.nil, 0))) (Sl.nil, 0)
/-- doublet/quotient.Norm, function 31. -/
def quotient_Norm (p0 : Sl) : M Sl :=
  M.new 24 [(Sl.val p0)] fun b1 =>
  M.ld Sl.val b1 fun x2 =>
  M.call Try.prog 59 [(vI (x2.len : Int)), (.func (.func 60) #[] #[(vA b1)])] Sl.val fun r3 =>
  M.ret r3
/-- doublet/hopcroft.many, function 32. -/
def hopcroft_many (p0 : Sl) : M Int :=
  M.call Try.prog 31 [(Sl.val p0)] Sl.val fun r1 =>
  M.call Try.prog 61 [(Sl.val r1)] vI fun r2 =>
  M.ret (wI (r2 + 1))
/-- doublet/doubletref20.Right, function 33. -/
def r20_Right (p0 : Dfv) : M Bool :=
  M.new 27 (Dfv.cs p0) fun b1 =>
  M.ld Sl.val (b1.add 258) fun x2 =>
  M.join (fun (q13 : Bool) =>
  M.ite q13
  (M.ret false)
  (M.loop (fun (go15 : Int → M _) (q14 : Int) =>
  M.ld Sl.val (b1.add 259) fun x16 =>
  M.ite (decide (q14 < (x16.len : Int)))
  (M.ld Sl.val (b1.add 259) fun x17 =>
  M.ix x17 q14 1 fun a18 =>
  M.ld Value.string a18 fun x19 =>
  M.call Try.prog 63 [(Value.string x19)] Value.bool fun r20 =>
  M.ite (!r20)
  (M.ret false)
  (M.loop (fun (go22 : Int → M _) (q21 : Int) =>
  M.ite (decide (q21 < q14))
  (M.drew <|
  M.ld Sl.val (b1.add 259) fun x23 =>
  M.ix x23 q21 1 fun a24 =>
  M.ld Value.string a24 fun x25 =>
  M.ld Sl.val (b1.add 259) fun x26 =>
  M.ix x26 q14 1 fun a27 =>
  M.ld Value.string a27 fun x28 =>
  M.ite (ByteArray.toList x25 == ByteArray.toList x28)
  (M.ret false)
  (go22 (wI (q21 + 1))))
  (go15 (wI (q14 + 1)))) 0))
  (M.loop (fun (go33 : Int → M _) (q32 : Int) =>
  M.ite (decide (q32 < (x2.len : Int)))
  (M.join (fun (q48 : Bool) =>
  M.ite q48
  (M.ret false)
  (M.loop (fun (go50 : Int → M _) (q49 : Int) =>
  M.ld vI (b1.add 256) fun x51 =>
  M.ite (decide (q49 < x51))
  (M.join (fun (q64 : Bool) =>
  M.ite q64
  (M.ret false)
  (go50 (wI (q49 + 1)))) fun J52 =>
  M.ld Sl.val (b1.add 257) fun x53 =>
  M.ix x53 q32 1 fun a54 =>
  M.ld Sl.val a54 fun x55 =>
  M.ix x55 q49 1 fun a56 =>
  M.ld vI a56 fun x57 =>
  M.ite (decide (x57 < 0))
  (J52 true)
  (M.ld Sl.val (b1.add 257) fun x59 =>
  M.ix x59 q32 1 fun a60 =>
  M.ld Sl.val a60 fun x61 =>
  M.ix x61 q49 1 fun a62 =>
  M.ld vI a62 fun x63 =>
  J52 (decide ((x2.len : Int) ≤ x63))))
  (go33 (wI (q32 + 1)))) 0)) fun J34 =>
  M.drew <|
  M.ld Sl.val (b1.add 257) fun x35 =>
  M.ix x35 q32 1 fun a36 =>
  M.ld Sl.val a36 fun x37 =>
  M.ld vI (b1.add 256) fun x38 =>
  M.ite (!decide ((x37.len : Int) = x38))
  (J34 true)
  (M.ld Sl.val (b1.add 258) fun x40 =>
  M.ix x40 q32 1 fun a41 =>
  M.ld vI a41 fun x42 =>
  M.ite (decide (x42 < 0))
  (J34 true)
  (M.ld Sl.val (b1.add 258) fun x44 =>
  M.ix x44 q32 1 fun a45 =>
  M.ld vI a45 fun x46 =>
  M.ld Sl.val (b1.add 259) fun x47 =>
  J34 (decide ((x47.len : Int) < x46)))))
  (M.ret true)) 0)) 0)) fun J3 =>
  M.ite (decide ((x2.len : Int) < 1))
  (J3 true)
  (M.ite (decide (65536 < (x2.len : Int)))
  (J3 true)
  (M.ld Sl.val (b1.add 257) fun x6 =>
  M.ite (!decide ((x6.len : Int) = (x2.len : Int)))
  (J3 true)
  (M.ld Sl.val (b1.add 259) fun x8 =>
  M.ite (decide (64 < (x8.len : Int)))
  (J3 true)
  (M.ldA Ar.cs (b1.add 0) fun v10 =>
  M.ld vI (b1.add 256) fun x11 =>
  M.call Try.prog 62 [(.agg (Ar.cs v10).toArray), (vI x11)] Value.bool fun r12 =>
  J3 (!r12)))))
/-- doublet/doubletref20.Trim, function 34. -/
def r20_Trim (p0 : Dfv) : M Dfv :=
  M.new 27 (Dfv.cs p0) fun b1 =>
  M.new 27 (Dfv.cs (⟨fun _ => 0, 0, Sl.nil, Sl.nil, Sl.nil⟩ : Dfv)) fun b2 =>
  M.drew <|
  M.ldA Dfv.cs b1 fun v3 =>
  M.ldA Dfv.cs b1 fun v4 =>
  M.both
  (M.call Try.prog 65 [(.agg (Dfv.cs v4).toArray)] Sl.val fun r5 =>
  M.chk (fun w => Cells w b1 (Dfv.cs v3)) <|
  M.both
  (M.call Try.prog 64 [(.agg (Dfv.cs v3).toArray), (Sl.val r5)] (fun x : (Dfv × Int) => .tuple #[(.agg (Dfv.cs x.1).toArray), (vI x.2)]) fun r7 =>
  M.new 27 (Dfv.cs (⟨fun _ => 0, 0, Sl.nil, Sl.nil, Sl.nil⟩ : Dfv)) fun b8 =>
  M.stA b8 (Dfv.cs r7.1) <|
  M.ldA Dfv.cs b8 fun v9 =>
  M.stA b2 (Dfv.cs v9) <|
  M.ldA Dfv.cs b2 fun v10 =>
  M.ret v10)
  (M.new 27 (Dfv.cs (⟨fun _ => 0, 0, Sl.nil, Sl.nil, Sl.nil⟩ : Dfv)) fun b11 =>
  M.chk (fun w => Cells w b1 (Dfv.cs v3)) <|
  M.call Try.prog 64 [(.agg (Dfv.cs v3).toArray), (Sl.val r5)] (fun x : (Dfv × Int) => .tuple #[(.agg (Dfv.cs x.1).toArray), (vI x.2)]) fun r13 =>
  M.stA b11 (Dfv.cs r13.1) <|
  M.ldA Dfv.cs b11 fun v14 =>
  M.stA b2 (Dfv.cs v14) <|
  M.ldA Dfv.cs b2 fun v15 =>
  M.ret v15))
  (M.new 27 (Dfv.cs (⟨fun _ => 0, 0, Sl.nil, Sl.nil, Sl.nil⟩ : Dfv)) fun b16 =>
  M.chk (fun w => Cells w b1 (Dfv.cs v4)) <|
  M.chk (fun w => Cells w b1 (Dfv.cs v3)) <|
  M.call Try.prog 65 [(.agg (Dfv.cs v4).toArray)] Sl.val fun r19 =>
  M.chk (fun w => Cells w b1 (Dfv.cs v3)) <|
  M.call Try.prog 64 [(.agg (Dfv.cs v3).toArray), (Sl.val r19)] (fun x : (Dfv × Int) => .tuple #[(.agg (Dfv.cs x.1).toArray), (vI x.2)]) fun r21 =>
  M.stA b16 (Dfv.cs r21.1) <|
  M.ldA Dfv.cs b16 fun v22 =>
  M.stA b2 (Dfv.cs v22) <|
  M.ldA Dfv.cs b2 fun v23 =>
  M.ret v23)
/-- doublet/doubletref23.Of, function 35. -/
def r23_Of (p0 : Dfv) (p1 : Sl) : M (Dfv × Int) :=
  M.new 27 (Dfv.cs p0) fun b1 =>
  M.new 27 (Dfv.cs (⟨fun _ => 0, 0, Sl.nil, Sl.nil, Sl.nil⟩ : Dfv)) fun b2 =>
  M.ldA Dfv.cs b1 fun v3 =>
  M.call Try.prog 33 [(.agg (Dfv.cs v3).toArray)] Value.bool fun r4 =>
  M.ite (!r4)
  (M.stA b2 (Dfv.cs (⟨(fun _ => 0), 0, Sl.nil, Sl.nil, Sl.nil⟩ : Dfv)) <|
  M.ldA Dfv.cs b2 fun v5 =>
  M.ret (v5, 6))
  (M.ldA Dfv.cs b1 fun v6 =>
  M.call Try.prog 66 [(.agg (Dfv.cs v6).toArray), (Sl.val p1)] Value.bool fun r7 =>
  M.ite (!r7)
  (M.stA b2 (Dfv.cs (⟨(fun _ => 0), 0, Sl.nil, Sl.nil, Sl.nil⟩ : Dfv)) <|
  M.ldA Dfv.cs b2 fun v8 =>
  M.ret (v8, 1))
  (M.call Try.prog 67 [(Sl.val p1)] Sl.val fun r9 =>
  M.ldA Ar.cs (b1.add 0) fun v10 =>
  M.ld vI (b1.add 256) fun x11 =>
  M.ld Sl.val (b1.add 259) fun x12 =>
  M.new 27 (Dfv.cs (⟨fun _ => 0, 0, Sl.nil, Sl.nil, Sl.nil⟩ : Dfv)) fun b13 =>
  M.stA b13 (Dfv.cs (⟨v10, x11, Sl.nil, Sl.nil, x12⟩ : Dfv)) <|
  M.loop (fun (go15 : Int → M _) (q14 : Int) =>
  M.ite (decide (q14 < (r9.len : Int)))
  (M.drew <|
  M.ix r9 q14 1 fun a16 =>
  M.ld vI a16 fun x17 =>
  M.ld Sl.val (b13.add 258) fun x18 =>
  M.ite (!decide (x17 = (x18.len : Int)))
  (go15 (wI (q14 + 1)))
  (M.new 3 [] fun b19 =>
  M.loop (fun (go21 : (Sl × Int) → M _) (q20 : (Sl × Int)) =>
  M.ld vI (b1.add 256) fun x22 =>
  M.ite (decide (q20.2 < x22))
  (M.ld Sl.val (b1.add 257) fun x23 =>
  M.ix x23 q14 1 fun a24 =>
  M.ld Sl.val a24 fun x25 =>
  M.ix x25 q20.2 1 fun a26 =>
  M.ld vI a26 fun x27 =>
  M.ix r9 x27 1 fun a28 =>
  M.ld vI a28 fun x29 =>
  M.new 3 [(vI x29)] fun b30 =>
  M.run Try.prog (Builtin.append_ #[24, 24] 24 #[(Sl.val q20.1), (Sl.val (⟨some b30, 1, 1⟩ : Sl))]) Sl.val fun s31 =>
  go21 (s31, wI (q20.2 + 1)))
  (M.ld Sl.val (b13.add 257) fun x32 =>
  M.new 24 [(Sl.val q20.1)] fun b33 =>
  M.run Try.prog (Builtin.append_ #[23, 23] 23 #[(Sl.val x32), (Sl.val (⟨some b33, 1, 1⟩ : Sl))]) Sl.val fun s34 =>
  M.st (b13.add 257) (Sl.val s34) <|
  M.drew <|
  M.ld Sl.val (b13.add 258) fun x35 =>
  M.ld Sl.val (b1.add 258) fun x36 =>
  M.ix x36 q14 1 fun a37 =>
  M.ld vI a37 fun x38 =>
  M.new 3 [(vI x38)] fun b39 =>
  M.chk (fun w => w.cell? (b1.add 258) = some (Sl.val x36)) <|
  M.chk (fun w => w.cell? (b13.add 258) = some (Sl.val x35)) <|
  M.run Try.prog (Builtin.append_ #[24, 24] 24 #[(Sl.val x35), (Sl.val (⟨some b39, 1, 1⟩ : Sl))]) Sl.val fun s42 =>
  M.chk (fun w => w.cell? (b1.add 258) = some (Sl.val x36)) <|
  M.st (b13.add 258) (Sl.val s42) <|
  go15 (wI (q14 + 1)))) ((⟨some b19, 0, 0⟩ : Sl), 0)))
  (M.ldA Dfv.cs b13 fun v46 =>
  M.stA b2 (Dfv.cs v46) <|
  M.ldA Dfv.cs b2 fun v47 =>
  M.ret (v47, 0))) 0))
/-- doublet/doubletref24.After, function 36. -/
def r24_After (p0 : Dfv) (p1 : Int) : M Sl :=
  M.new 27 (Dfv.cs p0) fun b1 =>
  M.ldA Dfv.cs b1 fun v2 =>
  M.call Try.prog 68 [(.agg (Dfv.cs v2).toArray), (vI p1)] Sl.val fun r3 =>
  M.new 3 [] fun b4 =>
  M.loop (fun (go6 : (Sl × Int) → M _) (q5 : (Sl × Int)) =>
  M.ld Sl.val (b1.add 258) fun x7 =>
  M.ite (decide (q5.2 < (x7.len : Int)))
  (M.loop (fun (go9 : Int → M _) (q8 : Int) =>
  M.ix r3 q5.2 1 fun a10 =>
  M.ld Sl.val a10 fun x11 =>
  M.ix x11 q8 1 fun a12 =>
  M.ld Value.bool a12 fun x13 =>
  M.ite x13
  (go9 (wI (q8 + 1)))
  (M.new 3 [(vI q8)] fun b14 =>
  M.run Try.prog (Builtin.append_ #[24, 24] 24 #[(Sl.val q5.1), (Sl.val (⟨some b14, 1, 1⟩ : Sl))]) Sl.val fun s15 =>
  go6 (s15, wI (q5.2 + 1)))) 0)
  (M.call Try.prog 67 [(Sl.val q5.1)] Sl.val fun r17 =>
  M.ret r17)) ((⟨some b4, 0, 0⟩ : Sl), 0)
/-- doublet/doubletref25.many, function 37. -/
def r25_many (p0 : Sl) : M Int :=
  M.call Try.prog 67 [(Sl.val p0)] Sl.val fun r1 =>
  M.loop (fun (go3 : (Int × Int) → M _) (q2 : (Int × Int)) =>
  M.ite (decide (q2.2 < (r1.len : Int)))
  (M.ix r1 q2.2 1 fun a4 =>
  M.ld vI a4 fun x5 =>
  go3 ((if x5 > q2.1 then x5 else q2.1), wI (q2.2 + 1)))
  (M.ret (wI (q2.1 + 1)))) ((-1), 0)
/-- doublet/doubletref20.Texts, function 38. -/
def r20_Texts (p0 : Sl) (p1 : Sl) : M Bool :=
  M.ite (!decide ((p0.len : Int) = (p1.len : Int)))
  (M.ret false)
  (M.loop (fun (go2 : Int → M _) (q1 : Int) =>
  M.ite (decide (q1 < (p0.len : Int)))
  (M.drew <|
  M.ix p0 q1 1 fun a3 =>
  M.ld Value.string a3 fun x4 =>
  M.ix p1 q1 1 fun a5 =>
  M.ld Value.string a5 fun x6 =>
  M.ite (!(ByteArray.toList x4 == ByteArray.toList x6))
  (M.ret false)
  (go2 (wI (q1 + 1))))
  (M.ret true)) 0)
/-- doublet/moore.After, function 39. -/
def moore_After (p0 : Dfv) (p1 : Int) : M Sl :=
  M.new 27 (Dfv.cs p0) fun b1 =>
  M.ldA Dfv.cs b1 fun v2 =>
  M.call Try.prog 69 [(.agg (Dfv.cs v2).toArray), (vI p1)] (fun x : (Int × Sl) => .tuple #[(vI x.1), (Sl.val x.2)]) fun r3 =>
  M.ret r3.2
/-- doublet/dfa.Tell, function 40. -/
def dfa_Tell (p0 : Dfv) (p1 : Sl) : M Int :=
  M.new 27 (Dfv.cs p0) fun b1 =>
  M.ldA Dfv.cs b1 fun v2 =>
  M.call Try.prog 70 [(.agg (Dfv.cs v2).toArray), (Sl.val p1)] vI fun r3 =>
  M.ite (decide (r3 < 0))
  (M.ret 0)
  (M.ld Sl.val (b1.add 258) fun x4 =>
  M.ix x4 r3 1 fun a5 =>
  M.ld vI a5 fun x6 =>
  M.ret x6)
/-- slices.Equal[[]int,int], function 41. -/
def slices_Equal_Lintint (p0 : Sl) (p1 : Sl) : M Bool :=
  M.ite (!decide ((p0.len : Int) = (p1.len : Int)))
  (M.ret false)
  (M.loop (fun (go2 : Int → M _) (q1 : Int) =>
  M.ite (decide (q1 < (p0.len : Int)))
  (M.drew <|
  M.ix p0 q1 1 fun a3 =>
  M.ld vI a3 fun x4 =>
  M.ix p1 q1 1 fun a5 =>
  M.ld vI a5 fun x6 =>
  M.ite (!decide (x4 = x6))
  (M.ret false)
  (go2 (wI (q1 + 1))))
  (M.ret true)) 0)
/-- slices.Equal[[]string,string], function 42. -/
def slices_Equal_Lstringstring (p0 : Sl) (p1 : Sl) : M Bool :=
  M.ite (!decide ((p0.len : Int) = (p1.len : Int)))
  (M.ret false)
  (M.loop (fun (go2 : Int → M _) (q1 : Int) =>
  M.ite (decide (q1 < (p0.len : Int)))
  (M.drew <|
  M.ix p0 q1 1 fun a3 =>
  M.ld Value.string a3 fun x4 =>
  M.ix p1 q1 1 fun a5 =>
  M.ld Value.string a5 fun x6 =>
  M.ite (!(ByteArray.toList x4 == ByteArray.toList x6))
  (M.ret false)
  (go2 (wI (q1 + 1))))
  (M.ret true)) 0)
/-- slices.EqualFunc[[][]int,[][]int,[]int,[]int], function 43. -/
def slices_EqualFunc_LLintLLintLintLint (p0 : Sl) (p1 : Sl) (p2 : Value) : M Bool :=
  M.ite (!decide ((p0.len : Int) = (p1.len : Int)))
  (M.ret false)
  (M.loop (fun (go2 : Int → M _) (q1 : Int) =>
  M.ite (decide (q1 < (p0.len : Int)))
  (M.ix p0 q1 1 fun a3 =>
  M.ld Sl.val a3 fun x4 =>
  M.ix p1 q1 1 fun a5 =>
  M.ld Sl.val a5 fun x6 =>
  M.callv Try.prog p2 [(Sl.val x4), (Sl.val x6)] Value.bool fun r7 =>
  M.ite (!r7)
  (M.ret false)
  (go2 (wI (q1 + 1))))
  (M.ret true)) 0)
/-- doublet/dfa.walk, function 44. -/
def dfa_walk (p0 : Int) (p1 : Sl) (p2 : Value) : M Value :=
  M.new 3 [(vI p0)] fun b1 =>
  M.new 24 [(Sl.val p1)] fun b2 =>
  M.asm (Value.cells p2 = #[p2]) <| M.new 66 [p2] fun b3 =>
  M.ret (.func (.func 71) #[] #[(vA b1), (vA b2), (vA b3)])
/-- doublet/dfa.Reach$1, function 45. -/
def dfa_Reach_c1 (p0 : Int) (c0 : Addr) : M Sl :=
  M.ld Sl.val (c0.add 257) fun x1 =>
  M.ix x1 p0 1 fun a2 =>
  M.ld Sl.val a2 fun x3 =>
  M.ret x3
/-- doublet/quotient.stable, function 46. -/
def quotient_stable (p0 : Dfv) (p1 : Sl) : M Bool :=
  M.new 27 (Dfv.cs p0) fun b1 =>
  M.new 24 [(Sl.val p1)] fun b2 =>
  M.ld Sl.val b2 fun x3 =>
  M.call Try.prog 49 [(Sl.val x3)] Sl.val fun r4 =>
  M.ld Sl.val (b1.add 257) fun x5 =>
  M.loop (fun (go7 : Int → M _) (q6 : Int) =>
  M.ite (decide (q6 < (x5.len : Int)))
  (M.ix x5 q6 1 fun a8 =>
  M.ld Sl.val a8 fun x9 =>
  M.ld Sl.val b2 fun x10 =>
  M.ix x10 q6 1 fun a11 =>
  M.ld vI a11 fun x12 =>
  M.ix r4 x12 1 fun a13 =>
  M.ld vI a13 fun x14 =>
  M.join (fun (q32 : Bool) =>
  M.ite q32
  (M.ret false)
  (go7 (wI (q6 + 1)))) fun J15 =>
  M.drew <|
  M.ld Sl.val (b1.add 258) fun x16 =>
  M.ix x16 q6 1 fun a17 =>
  M.ld vI a17 fun x18 =>
  M.ld Sl.val (b1.add 258) fun x19 =>
  M.ix x19 x14 1 fun a20 =>
  M.ld vI a20 fun x21 =>
  M.ite (!decide (x18 = x21))
  (J15 true)
  (M.ld Sl.val (b1.add 257) fun x23 =>
  M.ix x23 x14 1 fun a24 =>
  M.ld Sl.val a24 fun x25 =>
  M.call Try.prog 74 [(Sl.val x9), (Sl.val x25), (.func (.func 73) #[] #[(vA b2)])] Value.bool fun r26 =>
  M.chk (fun w => w.cell? (b1.add 257) = some (Sl.val x23)) <|
  M.chk (fun w => w.cell? a20 = some (vI x21)) <|
  M.chk (fun w => w.cell? (b1.add 258) = some (Sl.val x19)) <|
  M.chk (fun w => w.cell? a17 = some (vI x18)) <|
  M.chk (fun w => w.cell? (b1.add 258) = some (Sl.val x16)) <|
  J15 (!r26)))
  (M.ret true)) 0
/-- doublet/dfa.Keep, function 47. -/
def dfa_Keep (p0 : Dfv) (p1 : Sl) : M (Dfv × Int) :=
  M.new 27 (Dfv.cs p0) fun b1 =>
  M.new 27 (Dfv.cs (⟨fun _ => 0, 0, Sl.nil, Sl.nil, Sl.nil⟩ : Dfv)) fun b2 =>
  M.ldA Dfv.cs b1 fun v3 =>
  M.call Try.prog 7 [(.agg (Dfv.cs v3).toArray)] Value.bool fun r4 =>
  M.ite (!r4)
  (M.stA b2 (Dfv.cs (⟨(fun _ => 0), 0, Sl.nil, Sl.nil, Sl.nil⟩ : Dfv)) <|
  M.ldA Dfv.cs b2 fun v5 =>
  M.ret (v5, 6))
  (M.ld Sl.val (b1.add 258) fun x6 =>
  M.call Try.prog 75 [(vI (x6.len : Int)), (Sl.val p1)] (fun x : (Sl × Bool) => .tuple #[(Sl.val x.1), (Value.bool x.2)]) fun r7 =>
  M.ite (!r7.2)
  (M.stA b2 (Dfv.cs (⟨(fun _ => 0), 0, Sl.nil, Sl.nil, Sl.nil⟩ : Dfv)) <|
  M.ldA Dfv.cs b2 fun v8 =>
  M.ret (v8, 1))
  (M.drew <|
  M.ldA Ar.cs (b1.add 0) fun v9 =>
  M.ld vI (b1.add 256) fun x10 =>
  M.ld Sl.val (b1.add 259) fun x11 =>
  M.both
  (M.call Try.prog 48 [(Sl.val x11)] Sl.val fun r12 =>
  M.chk (fun w => w.cell? (b1.add 256) = some (vI x10)) <|
  M.chk (fun w => Cells w (b1.add 0) (Ar.cs v9)) <|
  M.new 27 (Dfv.cs (⟨fun _ => 0, 0, Sl.nil, Sl.nil, Sl.nil⟩ : Dfv)) fun b15 =>
  M.chk (fun w => w.cell? (b1.add 256) = some (vI x10)) <|
  M.chk (fun w => Cells w (b1.add 0) (Ar.cs v9)) <|
  M.stA b15 (Dfv.cs (⟨v9, x10, Sl.nil, Sl.nil, r12⟩ : Dfv)) <|
  M.loop (fun (go19 : Int → M _) (q18 : Int) =>
  M.ite (decide (q18 < (p1.len : Int)))
  (M.ix p1 q18 1 fun a20 =>
  M.ld vI a20 fun x21 =>
  M.ld vI (b1.add 256) fun x22 =>
  M.run Try.prog (Instr.makeSlice 24 (vI x22) (vI x22)) Sl.val fun s23 =>
  M.ld Sl.val (b1.add 257) fun x24 =>
  M.ix x24 x21 1 fun a25 =>
  M.ld Sl.val a25 fun x26 =>
  M.loop (fun (go28 : Int → M _) (q27 : Int) =>
  M.ite (decide (q27 < (x26.len : Int)))
  (M.ix x26 q27 1 fun a29 =>
  M.ld vI a29 fun x30 =>
  M.ix r7.1 x30 1 fun a31 =>
  M.ld vI a31 fun x32 =>
  M.ite (decide (x32 < 0))
  (M.stA b2 (Dfv.cs (⟨(fun _ => 0), 0, Sl.nil, Sl.nil, Sl.nil⟩ : Dfv)) <|
  M.ldA Dfv.cs b2 fun v33 =>
  M.ret (v33, 1))
  (M.ix r7.1 x30 1 fun a34 =>
  M.ld vI a34 fun x35 =>
  M.ix s23 q27 1 fun a36 =>
  M.st a36 (vI x35) <|
  go28 (wI (q27 + 1))))
  (M.ld Sl.val (b15.add 257) fun x38 =>
  M.new 24 [(Sl.val s23)] fun b39 =>
  M.run Try.prog (Builtin.append_ #[23, 23] 23 #[(Sl.val x38), (Sl.val (⟨some b39, 1, 1⟩ : Sl))]) Sl.val fun s40 =>
  M.st (b15.add 257) (Sl.val s40) <|
  M.drew <|
  M.ld Sl.val (b15.add 258) fun x41 =>
  M.ld Sl.val (b1.add 258) fun x42 =>
  M.ix x42 x21 1 fun a43 =>
  M.ld vI a43 fun x44 =>
  M.new 3 [(vI x44)] fun b45 =>
  M.chk (fun w => w.cell? (b1.add 258) = some (Sl.val x42)) <|
  M.chk (fun w => w.cell? (b15.add 258) = some (Sl.val x41)) <|
  M.run Try.prog (Builtin.append_ #[24, 24] 24 #[(Sl.val x41), (Sl.val (⟨some b45, 1, 1⟩ : Sl))]) Sl.val fun s48 =>
  M.chk (fun w => w.cell? (b1.add 258) = some (Sl.val x42)) <|
  M.st (b15.add 258) (Sl.val s48) <|
  go19 (wI (q18 + 1)))) 0)
  (M.ldA Dfv.cs b15 fun v51 =>
  M.stA b2 (Dfv.cs v51) <|
  M.ldA Dfv.cs b2 fun v52 =>
  M.ret (v52, 0))) 0)
  (M.new 27 (Dfv.cs (⟨fun _ => 0, 0, Sl.nil, Sl.nil, Sl.nil⟩ : Dfv)) fun b54 =>
  M.chk (fun w => w.cell? (b1.add 259) = some (Sl.val x11)) <|
  M.chk (fun w => w.cell? (b1.add 256) = some (vI x10)) <|
  M.chk (fun w => Cells w (b1.add 0) (Ar.cs v9)) <|
  M.call Try.prog 48 [(Sl.val x11)] Sl.val fun r58 =>
  M.chk (fun w => w.cell? (b1.add 256) = some (vI x10)) <|
  M.chk (fun w => Cells w (b1.add 0) (Ar.cs v9)) <|
  M.stA b54 (Dfv.cs (⟨v9, x10, Sl.nil, Sl.nil, r58⟩ : Dfv)) <|
  M.loop (fun (go62 : Int → M _) (q61 : Int) =>
  M.ite (decide (q61 < (p1.len : Int)))
  (M.ix p1 q61 1 fun a63 =>
  M.ld vI a63 fun x64 =>
  M.ld vI (b1.add 256) fun x65 =>
  M.run Try.prog (Instr.makeSlice 24 (vI x65) (vI x65)) Sl.val fun s66 =>
  M.ld Sl.val (b1.add 257) fun x67 =>
  M.ix x67 x64 1 fun a68 =>
  M.ld Sl.val a68 fun x69 =>
  M.loop (fun (go71 : Int → M _) (q70 : Int) =>
  M.ite (decide (q70 < (x69.len : Int)))
  (M.ix x69 q70 1 fun a72 =>
  M.ld vI a72 fun x73 =>
  M.ix r7.1 x73 1 fun a74 =>
  M.ld vI a74 fun x75 =>
  M.ite (decide (x75 < 0))
  (M.stA b2 (Dfv.cs (⟨(fun _ => 0), 0, Sl.nil, Sl.nil, Sl.nil⟩ : Dfv)) <|
  M.ldA Dfv.cs b2 fun v76 =>
  M.ret (v76, 1))
  (M.ix r7.1 x73 1 fun a77 =>
  M.ld vI a77 fun x78 =>
  M.ix s66 q70 1 fun a79 =>
  M.st a79 (vI x78) <|
  go71 (wI (q70 + 1))))
  (M.ld Sl.val (b54.add 257) fun x81 =>
  M.new 24 [(Sl.val s66)] fun b82 =>
  M.run Try.prog (Builtin.append_ #[23, 23] 23 #[(Sl.val x81), (Sl.val (⟨some b82, 1, 1⟩ : Sl))]) Sl.val fun s83 =>
  M.st (b54.add 257) (Sl.val s83) <|
  M.drew <|
  M.ld Sl.val (b54.add 258) fun x84 =>
  M.ld Sl.val (b1.add 258) fun x85 =>
  M.ix x85 x64 1 fun a86 =>
  M.ld vI a86 fun x87 =>
  M.new 3 [(vI x87)] fun b88 =>
  M.chk (fun w => w.cell? (b1.add 258) = some (Sl.val x85)) <|
  M.chk (fun w => w.cell? (b54.add 258) = some (Sl.val x84)) <|
  M.run Try.prog (Builtin.append_ #[24, 24] 24 #[(Sl.val x84), (Sl.val (⟨some b88, 1, 1⟩ : Sl))]) Sl.val fun s91 =>
  M.chk (fun w => w.cell? (b1.add 258) = some (Sl.val x85)) <|
  M.st (b54.add 258) (Sl.val s91) <|
  go62 (wI (q61 + 1)))) 0)
  (M.ldA Dfv.cs b54 fun v94 =>
  M.stA b2 (Dfv.cs v94) <|
  M.ldA Dfv.cs b2 fun v95 =>
  M.ret (v95, 0))) 0)))
/-- slices.Clone[[]string,string], function 48. -/
def slices_Clone_Lstringstring (p0 : Sl) : M Sl :=
  M.ite (Option.isNone p0.addr)
  (M.ret Sl.nil)
  (M.new 9 [] fun b1 =>
  M.run Try.prog (Builtin.append_ #[25, 25] 25 #[(Sl.val (⟨some b1, 0, 0⟩ : Sl)), (Sl.val p0)]) Sl.val fun s2 =>
  M.ret s2)
/-- doublet/quotient.heads, function 49. -/
def quotient_heads (p0 : Sl) : M Sl :=
  M.loop (fun (go2 : (Sl × Int) → M _) (q1 : (Sl × Int)) =>
  M.ite (decide (q1.2 < (p0.len : Int)))
  (M.ix p0 q1.2 1 fun a3 =>
  M.ld vI a3 fun x4 =>
  M.ite (decide (x4 = (q1.1.len : Int)))
  (M.new 3 [(vI q1.2)] fun b5 =>
  M.run Try.prog (Builtin.append_ #[24, 24] 24 #[(Sl.val q1.1), (Sl.val (⟨some b5, 1, 1⟩ : Sl))]) Sl.val fun s6 =>
  go2 (s6, wI (q1.2 + 1)))
  (go2 (q1.1, wI (q1.2 + 1))))
  (M.ret q1.1)) (Sl.nil, 0)
/-- doublet/parts.Norm, function 50. -/
def parts_Norm (p0 : (Nat → Int)) : M ((Nat → Int) × Int) :=
  M.new 22 (Ar.cs p0) fun b1 =>
  M.new 22 (Ar.cs (fun __ => 0)) fun b2 =>
  M.call Try.prog 76 [(.func (.func 77) #[] #[(vA b1)])] (fun x : ((Nat → Int) × Int) => .tuple #[(.agg (Ar.cs x.1).toArray), (vI x.2)]) fun r3 =>
  M.stA b2 (Ar.cs r3.1) <|
  M.ldA Ar.cs b2 fun v4 =>
  M.ret (v4, r3.2)
/-- doublet/spec.Name, function 51. -/
def spec_Name (p0 : ByteArray) : M Bool :=
  M.ite (!(ByteArray.toList p0 == ByteArray.toList (⟨#[]⟩ : ByteArray)))
  (M.ite (decide ((p0.size : Int) ≤ 32))
  (M.call Try.prog 78 [(Value.string p0)] vI fun r3 =>
  M.ret (decide (r3 = (p0.size : Int))))
  (M.ret false))
  (M.ret false)
/-- slices.Contains[[]string,string], function 52. -/
def slices_Contains_Lstringstring (p0 : Sl) (p1 : ByteArray) : M Bool :=
  M.call Try.prog 79 [(Sl.val p0), (Value.string p1)] vI fun r1 =>
  M.ret (decide (0 ≤ r1))
/-- slices.SortStableFunc[[]int,int], function 53. -/
def slices_SortStableFunc_Lintint (p0 : Sl) (p1 : Value) : M Unit :=
  M.call Try.prog 80 [(Sl.val p0), (vI (p0.len : Int)), p1] vUnit fun _r1 =>
  M.ret ()
/-- doublet/hopcroft.newParter$1, function 54. -/
def hopcroft_newParter_c1 (p0 : Int) (p1 : Int) (c0 : Addr) : M Int :=
  M.drew <|
  M.ld vP c0 fun x1 =>
  M.nn x1 fun a2 =>
  M.ld Sl.val (a2.add 2) fun x3 =>
  M.ix x3 p0 1 fun a4 =>
  M.ld vI a4 fun x5 =>
  M.ld vP c0 fun x6 =>
  M.nn x6 fun a7 =>
  M.ld Sl.val (a7.add 2) fun x8 =>
  M.ix x8 p1 1 fun a9 =>
  M.ld vI a9 fun x10 =>
  M.ret (wI (x5 - x10))
/-- (*doublet/hopcroft.parter).inside, function 55. -/
def hopcroft_parter_inside (p0 : Option Addr) (p1 : Int) : M Sl :=
  M.nn p0 fun a1 =>
  M.ld Sl.val (a1.add 3) fun x2 =>
  M.ix x2 p1 3 fun a3 =>
  M.ldA Spv.cs a3 fun v4 =>
  M.new 75 (Spv.cs (⟨0, 0, 0⟩ : Spv)) fun b5 =>
  M.stA b5 (Spv.cs v4) <|
  M.drew <|
  M.nn p0 fun a6 =>
  M.ld Sl.val (a6.add 0) fun x7 =>
  M.ld vI (b5.add 0) fun x8 =>
  M.ld vI (b5.add 1) fun x9 =>
  M.ld vI (b5.add 1) fun x10 =>
  M.cut x7 x8 x9 x10 1 fun s11 =>
  M.ret s11
/-- (*doublet/hopcroft.parter).mark, function 56. -/
def hopcroft_parter_mark (p0 : Option Addr) (p1 : Int) : M Bool :=
  M.drew <|
  M.nn p0 fun a1 =>
  M.ld Sl.val (a1.add 3) fun x2 =>
  M.nn p0 fun a3 =>
  M.ld Sl.val (a3.add 2) fun x4 =>
  M.ix x4 p1 1 fun a5 =>
  M.ld vI a5 fun x6 =>
  M.ix x2 x6 3 fun a7 =>
  M.drew <|
  M.ld vI (a7.add 0) fun x8 =>
  M.ld vI (a7.add 2) fun x9 =>
  M.nn p0 fun a10 =>
  M.ld Sl.val (a10.add 1) fun x11 =>
  M.ix x11 p1 1 fun a12 =>
  M.ld vI a12 fun x13 =>
  M.ite (decide (x13 < (wI (x8 + x9))))
  (M.ret false)
  (M.nn p0 fun a14 =>
  M.ld Sl.val (a14.add 0) fun x15 =>
  M.ix x15 (wI (x8 + x9)) 1 fun a16 =>
  M.ld vI a16 fun x17 =>
  M.drew <|
  M.nn p0 fun a18 =>
  M.ld Sl.val (a18.add 0) fun x19 =>
  M.nn p0 fun a20 =>
  M.ld Sl.val (a20.add 0) fun x21 =>
  M.nn p0 fun a22 =>
  M.ld Sl.val (a22.add 1) fun x23 =>
  M.ix x23 p1 1 fun a24 =>
  M.ld vI a24 fun x25 =>
  M.ix x19 (wI (x8 + x9)) 1 fun a26 =>
  M.st a26 (vI p1) <|
  M.ix x21 x25 1 fun a27 =>
  M.st a27 (vI x17) <|
  M.drew <|
  M.nn p0 fun a28 =>
  M.ld Sl.val (a28.add 1) fun x29 =>
  M.nn p0 fun a30 =>
  M.ld Sl.val (a30.add 1) fun x31 =>
  M.nn p0 fun a32 =>
  M.ld Sl.val (a32.add 1) fun x33 =>
  M.ix x33 p1 1 fun a34 =>
  M.ld vI a34 fun x35 =>
  M.ix x29 x17 1 fun a36 =>
  M.st a36 (vI x35) <|
  M.ix x31 p1 1 fun a37 =>
  M.st a37 (vI (wI (x8 + x9))) <|
  M.ld vI (a7.add 2) fun x38 =>
  M.st (a7.add 2) (vI (wI (x38 + 1))) <|
  M.ret true)
/-- (*doublet/hopcroft.parter).part, function 57. -/
def hopcroft_parter_part (p0 : Option Addr) (p1 : Int) : M Int :=
  M.nn p0 fun a1 =>
  M.ld Sl.val (a1.add 3) fun x2 =>
  M.ix x2 p1 3 fun a3 =>
  M.ld vI (a3.add 2) fun x4 =>
  M.st (a3.add 2) (vI 0) <|
  M.drew <|
  M.ld vI (a3.add 1) fun x5 =>
  M.ld vI (a3.add 0) fun x6 =>
  M.ite (decide (x4 = (wI (x5 - x6))))
  (M.ret (-1))
  (M.nn p0 fun a7 =>
  M.ld Sl.val (a7.add 3) fun x8 =>
  M.drew <|
  M.ld vI (a3.add 0) fun x9 =>
  M.ld vI (a3.add 0) fun x10 =>
  M.new 75 (Spv.cs (⟨0, 0, 0⟩ : Spv)) fun b11 =>
  M.chk (fun w => w.cell? (a3.add 0) = some (vI x10)) <|
  M.chk (fun w => w.cell? (a3.add 0) = some (vI x9)) <|
  M.stA b11 (Spv.cs (⟨x9, wI (x10 + x4), 0⟩ : Spv)) <|
  M.ld vI (a3.add 0) fun x14 =>
  M.st (a3.add 0) (vI (wI (x14 + x4))) <|
  M.drew <|
  M.nn p0 fun a15 =>
  M.ld Sl.val (a15.add 3) fun x16 =>
  M.ldA Spv.cs b11 fun v17 =>
  M.new 75 ((Spv.cs v17)) fun b18 =>
  M.chk (fun w => w.cell? (a15.add 3) = some (Sl.val x16)) <|
  M.run Try.prog (Builtin.append_ #[47, 47] 47 #[(Sl.val x16), (Sl.val (⟨some b18, 1, 1⟩ : Sl))]) Sl.val fun s20 =>
  M.nn p0 fun a21 =>
  M.st (a21.add 3) (Sl.val s20) <|
  M.call Try.prog 55 [(vP p0), (vI (x8.len : Int))] Sl.val fun r22 =>
  M.loop (fun (go24 : Int → M _) (q23 : Int) =>
  M.ite (decide (q23 < (r22.len : Int)))
  (M.ix r22 q23 1 fun a25 =>
  M.ld vI a25 fun x26 =>
  M.nn p0 fun a27 =>
  M.ld Sl.val (a27.add 2) fun x28 =>
  M.ix x28 x26 1 fun a29 =>
  M.st a29 (vI (x8.len : Int)) <|
  go24 (wI (q23 + 1)))
  (M.ret (x8.len : Int))) 0)
/-- (*doublet/hopcroft.parter).askLesser, function 58. -/
def hopcroft_parter_askLesser (p0 : Option Addr) (p1 : Int) (p2 : Int) (p3 : Int) : M Unit :=
  M.new 45 [(vP p0)] fun b1 =>
  M.join (fun (q10 : Bool) =>
  M.ite q10
  (M.ld vP b1 fun x11 =>
  M.call Try.prog 28 [(vP x11), (vI p2), (vI p3)] vUnit fun _r12 =>
  M.ret ())
  (M.ld vP b1 fun x13 =>
  M.call Try.prog 28 [(vP x13), (vI p1), (vI p3)] vUnit fun _r14 =>
  M.ret ())) fun J2 =>
  M.ld vP b1 fun x3 =>
  M.nn x3 fun a4 =>
  M.ld Value.map (a4.add 6) fun x5 =>
  M.look Try.prog (Instr.lookup 50 (Value.map x5) (.agg (Pr.cs (⟨p1, p3⟩ : (Int × Int))).toArray) false) vI fun x6 =>
  M.ite (decide (x6 = 1))
  (J2 true)
  (M.callv Try.prog (.func (.func 81) #[] #[(vA b1)]) [(vI p2)] vI fun r8 =>
  M.callv Try.prog (.func (.func 81) #[] #[(vA b1)]) [(vI p1)] vI fun r9 =>
  J2 (decide (r8 ≤ r9)))
/-- doublet/quotient.number[int], function 59. -/
def quotient_number_int (p0 : Int) (p1 : Value) : M Sl :=
  M.run Try.prog (Instr.makeMap 95 none) Value.map fun m1 =>
  M.loop (fun (go3 : (Sl × Int) → M _) (q2 : (Sl × Int)) =>
  M.ite (decide (q2.2 < p0))
  (M.callv Try.prog p1 [(vI q2.2)] vI fun r4 =>
  M.join (fun (_q9 : Unit) =>
  M.look Try.prog (Instr.lookup 95 (Value.map m1) (vI r4) false) vI fun x10 =>
  M.new 3 [(vI x10)] fun b11 =>
  M.run Try.prog (Builtin.append_ #[24, 24] 24 #[(Sl.val q2.1), (Sl.val (⟨some b11, 1, 1⟩ : Sl))]) Sl.val fun s12 =>
  go3 (s12, wI (q2.2 + 1))) fun J5 =>
  M.look Try.prog (Instr.lookup 95 (Value.map m1) (vI r4) true) (fun x : (Int × Bool) => .tuple #[(vI x.1), (Value.bool x.2)]) fun x6 =>
  M.ite (!x6.2)
  (M.look Try.prog (Builtin.len_ #[95] 3 #[(Value.map m1)]) vI fun x7 =>
  M.runU Try.prog (Instr.mapUpdate 95 (Value.map m1) (vI r4) (vI x7)) <|
  J5 ())
  (J5 ()))
  (M.ret q2.1)) (Sl.nil, 0)
/-- doublet/quotient.Norm$1, function 60. -/
def quotient_Norm_c1 (p0 : Int) (c0 : Addr) : M Int :=
  M.ld Sl.val c0 fun x1 =>
  M.ix x1 p0 1 fun a2 =>
  M.ld vI a2 fun x3 =>
  M.ret x3
/-- slices.Max[[]int,int], function 61. -/
def slices_Max_Lintint (p0 : Sl) : M Int :=
  M.ite (decide ((p0.len : Int) < 1))
  (M.bad)
  (M.ix p0 0 1 fun a1 =>
  M.ld vI a1 fun x2 =>
  M.loop (fun (go4 : (Int × Int) → M _) (q3 : (Int × Int)) =>
  M.ite (decide (q3.2 < (p0.len : Int)))
  (M.ix p0 q3.2 1 fun a5 =>
  M.ld vI a5 fun x6 =>
  go4 ((if x6 > q3.1 then x6 else q3.1), wI (q3.2 + 1)))
  (M.ret q3.1)) (x2, 1))
/-- doublet/doubletref19.Right, function 62. -/
def r19_Right (p0 : (Nat → Int)) (p1 : Int) : M Bool :=
  M.new 22 (Ar.cs p0) fun b1 =>
  M.ldA Ar.cs b1 fun v2 =>
  M.call Try.prog 82 [(.agg (Ar.cs v2).toArray)] (fun x : ((Nat → Int) × Int) => .tuple #[(.agg (Ar.cs x.1).toArray), (vI x.2)]) fun r3 =>
  M.new 22 (Ar.cs (fun __ => 0)) fun b4 =>
  M.stA b4 (Ar.cs r3.1) <|
  M.ldA Ar.cs b4 fun v5 =>
  M.ldA Ar.cs b1 fun v6 =>
  M.look Try.prog (eqAgg .eql 22 (.agg (Ar.cs v5).toArray) (.agg (Ar.cs v6).toArray)) Value.bool fun x7 =>
  M.ite x7
  (M.ret (decide (r3.2 = p1)))
  (M.ret false)
/-- doublet/doubletref09.Name, function 63. -/
def r09_Name (p0 : ByteArray) : M Bool :=
  M.loop (fun (go2 : Int → M _) (q1 : Int) =>
  M.ite (decide (q1 < (p0.size : Int)))
  (M.look Try.prog (Instr.index 9 (Value.string p0) (vI q1)) vU8 fun x3 =>
  M.call Try.prog 83 [(vU8 x3), (Value.bool (decide (q1 = 0)))] Value.bool fun r4 =>
  M.ite (!r4)
  (M.ret false)
  (go2 (wI (q1 + 1))))
  (M.ite (decide (1 ≤ (p0.size : Int)))
  (M.ret (decide ((p0.size : Int) ≤ 32)))
  (M.ret false))) 0
/-- doublet/doubletref20.Keep, function 64. -/
def r20_Keep (p0 : Dfv) (p1 : Sl) : M (Dfv × Int) :=
  M.new 27 (Dfv.cs p0) fun b1 =>
  M.new 27 (Dfv.cs (⟨fun _ => 0, 0, Sl.nil, Sl.nil, Sl.nil⟩ : Dfv)) fun b2 =>
  M.join (fun (q7 : Bool) =>
  M.ite q7
  (M.stA b2 (Dfv.cs (⟨(fun _ => 0), 0, Sl.nil, Sl.nil, Sl.nil⟩ : Dfv)) <|
  M.ldA Dfv.cs b2 fun v8 =>
  M.ret (v8, 1))
  (M.ldA Ar.cs (b1.add 0) fun v9 =>
  M.ld vI (b1.add 256) fun x10 =>
  M.ld Sl.val (b1.add 259) fun x11 =>
  M.new 27 (Dfv.cs (⟨fun _ => 0, 0, Sl.nil, Sl.nil, Sl.nil⟩ : Dfv)) fun b12 =>
  M.stA b12 (Dfv.cs (⟨v9, x10, Sl.nil, Sl.nil, x11⟩ : Dfv)) <|
  M.loop (fun (go14 : Int → M _) (q13 : Int) =>
  M.ite (decide (q13 < (p1.len : Int)))
  (M.join (fun (q29 : Bool) =>
  M.ite q29
  (M.stA b2 (Dfv.cs (⟨(fun _ => 0), 0, Sl.nil, Sl.nil, Sl.nil⟩ : Dfv)) <|
  M.ldA Dfv.cs b2 fun v30 =>
  M.ret (v30, 1))
  (go14 (wI (q13 + 1)))) fun J15 =>
  M.drew <|
  M.ix p1 q13 1 fun a16 =>
  M.ld vI a16 fun x17 =>
  M.ite (decide (x17 < 0))
  (J15 true)
  (M.ix p1 q13 1 fun a19 =>
  M.ld vI a19 fun x20 =>
  M.ld Sl.val (b1.add 258) fun x21 =>
  M.ite (decide ((x21.len : Int) ≤ x20))
  (J15 true)
  (M.ix p1 q13 1 fun a23 =>
  M.ld vI a23 fun x24 =>
  M.call Try.prog 84 [(Sl.val p1), (vI x24)] vI fun r25 =>
  M.chk (fun w => w.cell? (b1.add 258) = some (Sl.val x21)) <|
  M.chk (fun w => w.cell? a19 = some (vI x20)) <|
  M.chk (fun w => w.cell? a16 = some (vI x17)) <|
  J15 (!decide (r25 = q13)))))
  (M.loop (fun (go33 : Int → M _) (q32 : Int) =>
  M.ite (decide (q32 < (p1.len : Int)))
  (M.new 3 [] fun b34 =>
  M.loop (fun (go36 : (Sl × Int) → M _) (q35 : (Sl × Int)) =>
  M.ld vI (b1.add 256) fun x37 =>
  M.ite (decide (q35.2 < x37))
  (M.drew <|
  M.ld Sl.val (b1.add 257) fun x38 =>
  M.ix p1 q32 1 fun a39 =>
  M.ld vI a39 fun x40 =>
  M.ix x38 x40 1 fun a41 =>
  M.ld Sl.val a41 fun x42 =>
  M.ix x42 q35.2 1 fun a43 =>
  M.ld vI a43 fun x44 =>
  M.call Try.prog 84 [(Sl.val p1), (vI x44)] vI fun r45 =>
  M.chk (fun w => w.cell? a41 = some (Sl.val x42)) <|
  M.chk (fun w => w.cell? a39 = some (vI x40)) <|
  M.chk (fun w => w.cell? (b1.add 257) = some (Sl.val x38)) <|
  M.ite (decide (r45 < 0))
  (M.stA b2 (Dfv.cs (⟨(fun _ => 0), 0, Sl.nil, Sl.nil, Sl.nil⟩ : Dfv)) <|
  M.ldA Dfv.cs b2 fun v49 =>
  M.ret (v49, 1))
  (M.new 3 [(vI r45)] fun b50 =>
  M.run Try.prog (Builtin.append_ #[24, 24] 24 #[(Sl.val q35.1), (Sl.val (⟨some b50, 1, 1⟩ : Sl))]) Sl.val fun s51 =>
  go36 (s51, wI (q35.2 + 1))))
  (M.ld Sl.val (b12.add 257) fun x53 =>
  M.new 24 [(Sl.val q35.1)] fun b54 =>
  M.run Try.prog (Builtin.append_ #[23, 23] 23 #[(Sl.val x53), (Sl.val (⟨some b54, 1, 1⟩ : Sl))]) Sl.val fun s55 =>
  M.st (b12.add 257) (Sl.val s55) <|
  M.drew <|
  M.ld Sl.val (b12.add 258) fun x56 =>
  M.ld Sl.val (b1.add 258) fun x57 =>
  M.ix p1 q32 1 fun a58 =>
  M.ld vI a58 fun x59 =>
  M.ix x57 x59 1 fun a60 =>
  M.ld vI a60 fun x61 =>
  M.new 3 [(vI x61)] fun b62 =>
  M.chk (fun w => w.cell? a58 = some (vI x59)) <|
  M.chk (fun w => w.cell? (b1.add 258) = some (Sl.val x57)) <|
  M.chk (fun w => w.cell? (b12.add 258) = some (Sl.val x56)) <|
  M.run Try.prog (Builtin.append_ #[24, 24] 24 #[(Sl.val x56), (Sl.val (⟨some b62, 1, 1⟩ : Sl))]) Sl.val fun s66 =>
  M.chk (fun w => w.cell? a58 = some (vI x59)) <|
  M.chk (fun w => w.cell? (b1.add 258) = some (Sl.val x57)) <|
  M.st (b12.add 258) (Sl.val s66) <|
  go33 (wI (q32 + 1)))) ((⟨some b34, 0, 0⟩ : Sl), 0))
  (M.ldA Dfv.cs b12 fun v70 =>
  M.stA b2 (Dfv.cs v70) <|
  M.ldA Dfv.cs b2 fun v71 =>
  M.ret (v71, 0))) 0)) 0)) fun J3 =>
  M.ite (decide ((p1.len : Int) = 0))
  (J3 true)
  (M.ix p1 0 1 fun a5 =>
  M.ld vI a5 fun x6 =>
  J3 (!decide (x6 = 0)))
/-- doublet/doubletref20.Reach, function 65. -/
def r20_Reach (p0 : Dfv) : M Sl :=
  M.new 27 (Dfv.cs p0) fun b1 =>
  M.new 3 [(vI 0)] fun b2 =>
  M.loop (fun (go4 : (Sl × Int) → M _) (q3 : (Sl × Int)) =>
  M.ite (decide (q3.2 < (q3.1.len : Int)))
  (M.loop (fun (go6 : (Sl × Int) → M _) (q5 : (Sl × Int)) =>
  M.ld vI (b1.add 256) fun x7 =>
  M.ite (decide (q5.2 < x7))
  (M.drew <|
  M.ld Sl.val (b1.add 257) fun x8 =>
  M.ix q5.1 q3.2 1 fun a9 =>
  M.ld vI a9 fun x10 =>
  M.ix x8 x10 1 fun a11 =>
  M.ld Sl.val a11 fun x12 =>
  M.ix x12 q5.2 1 fun a13 =>
  M.ld vI a13 fun x14 =>
  M.call Try.prog 85 [(Sl.val q5.1), (vI x14)] Value.bool fun r15 =>
  M.ite (!r15)
  (M.new 3 [(vI x14)] fun b16 =>
  M.run Try.prog (Builtin.append_ #[24, 24] 24 #[(Sl.val q5.1), (Sl.val (⟨some b16, 1, 1⟩ : Sl))]) Sl.val fun s17 =>
  go6 (s17, wI (q5.2 + 1)))
  (go6 (q5.1, wI (q5.2 + 1))))
  (go4 (q5.1, wI (q3.2 + 1)))) (q3.1, 0))
  (M.ret q3.1)) ((⟨some b2, 1, 1⟩ : Sl), 0)
/-- doublet/doubletref23.Stable, function 66. -/
def r23_Stable (p0 : Dfv) (p1 : Sl) : M Bool :=
  M.new 27 (Dfv.cs p0) fun b1 =>
  M.join (fun (q7 : Bool) =>
  M.ite q7
  (M.ret false)
  (M.loop (fun (go9 : Int → M _) (q8 : Int) =>
  M.ite (decide (q8 < (p1.len : Int)))
  (M.ix p1 q8 1 fun a10 =>
  M.ld vI a10 fun x11 =>
  M.call Try.prog 86 [(Sl.val p1), (vI x11)] vI fun r12 =>
  M.drew <|
  M.ld Sl.val (b1.add 258) fun x13 =>
  M.ix x13 q8 1 fun a14 =>
  M.ld vI a14 fun x15 =>
  M.ld Sl.val (b1.add 258) fun x16 =>
  M.ix x16 r12 1 fun a17 =>
  M.ld vI a17 fun x18 =>
  M.ite (!decide (x15 = x18))
  (M.ret false)
  (M.loop (fun (go20 : Int → M _) (q19 : Int) =>
  M.ld vI (b1.add 256) fun x21 =>
  M.ite (decide (q19 < x21))
  (M.drew <|
  M.ld Sl.val (b1.add 257) fun x22 =>
  M.ix x22 q8 1 fun a23 =>
  M.ld Sl.val a23 fun x24 =>
  M.ix x24 q19 1 fun a25 =>
  M.ld vI a25 fun x26 =>
  M.ix p1 x26 1 fun a27 =>
  M.ld vI a27 fun x28 =>
  M.ld Sl.val (b1.add 257) fun x29 =>
  M.ix x29 r12 1 fun a30 =>
  M.ld Sl.val a30 fun x31 =>
  M.ix x31 q19 1 fun a32 =>
  M.ld vI a32 fun x33 =>
  M.ix p1 x33 1 fun a34 =>
  M.ld vI a34 fun x35 =>
  M.ite (!decide (x28 = x35))
  (M.ret false)
  (go20 (wI (q19 + 1))))
  (go9 (wI (q8 + 1)))) 0))
  (M.ret true)) 0)) fun J2 =>
  M.ldA Dfv.cs b1 fun v3 =>
  M.call Try.prog 33 [(.agg (Dfv.cs v3).toArray)] Value.bool fun r4 =>
  M.ite (!r4)
  (J2 true)
  (M.ld Sl.val (b1.add 258) fun x6 =>
  J2 (!decide ((p1.len : Int) = (x6.len : Int))))
/-- doublet/doubletref23.Norm, function 67. -/
def r23_Norm (p0 : Sl) : M Sl :=
  M.new 3 [] fun b1 =>
  M.loop (fun (go3 : (Sl × Int × Int) → M _) (q2 : (Sl × Int × Int)) =>
  M.ite (decide (q2.2.2 < (p0.len : Int)))
  (M.ix p0 q2.2.2 1 fun a4 =>
  M.ld vI a4 fun x5 =>
  M.call Try.prog 86 [(Sl.val p0), (vI x5)] vI fun r6 =>
  M.ite (decide (r6 = q2.2.2))
  (M.new 3 [(vI q2.2.1)] fun b7 =>
  M.run Try.prog (Builtin.append_ #[24, 24] 24 #[(Sl.val q2.1), (Sl.val (⟨some b7, 1, 1⟩ : Sl))]) Sl.val fun s8 =>
  go3 (s8, wI (q2.2.1 + 1), wI (q2.2.2 + 1)))
  (M.ix q2.1 r6 1 fun a9 =>
  M.ld vI a9 fun x10 =>
  M.new 3 [(vI x10)] fun b11 =>
  M.run Try.prog (Builtin.append_ #[24, 24] 24 #[(Sl.val q2.1), (Sl.val (⟨some b11, 1, 1⟩ : Sl))]) Sl.val fun s12 =>
  go3 (s12, q2.2.1, wI (q2.2.2 + 1))))
  (M.ret q2.1)) ((⟨some b1, 0, 0⟩ : Sl), 0, 0)
/-- doublet/doubletref24.apart, function 68. -/
def r24_apart (p0 : Dfv) (p1 : Int) : M Sl :=
  M.new 27 (Dfv.cs p0) fun b1 =>
  M.ld Sl.val (b1.add 258) fun x2 =>
  M.new 82 [] fun b3 =>
  M.loop (fun (go5 : (Sl × Int) → M _) (q4 : (Sl × Int)) =>
  M.ite (decide (q4.2 < (x2.len : Int)))
  (M.new 4 [] fun b6 =>
  M.loop (fun (go8 : (Sl × Int) → M _) (q7 : (Sl × Int)) =>
  M.ite (decide (q7.2 < (x2.len : Int)))
  (M.drew <|
  M.ld Sl.val (b1.add 258) fun x9 =>
  M.ix x9 q4.2 1 fun a10 =>
  M.ld vI a10 fun x11 =>
  M.ld Sl.val (b1.add 258) fun x12 =>
  M.ix x12 q7.2 1 fun a13 =>
  M.ld vI a13 fun x14 =>
  M.new 4 [(Value.bool (!decide (x11 = x14)))] fun b15 =>
  M.chk (fun w => w.cell? a13 = some (vI x14)) <|
  M.chk (fun w => w.cell? (b1.add 258) = some (Sl.val x12)) <|
  M.chk (fun w => w.cell? a10 = some (vI x11)) <|
  M.chk (fun w => w.cell? (b1.add 258) = some (Sl.val x9)) <|
  M.run Try.prog (Builtin.append_ #[82, 82] 82 #[(Sl.val q7.1), (Sl.val (⟨some b15, 1, 1⟩ : Sl))]) Sl.val fun s20 =>
  M.chk (fun w => w.cell? a13 = some (vI x14)) <|
  M.chk (fun w => w.cell? (b1.add 258) = some (Sl.val x12)) <|
  M.chk (fun w => w.cell? a10 = some (vI x11)) <|
  M.chk (fun w => w.cell? (b1.add 258) = some (Sl.val x9)) <|
  go8 (s20, wI (q7.2 + 1)))
  (M.new 82 [(Sl.val q7.1)] fun b25 =>
  M.run Try.prog (Builtin.append_ #[80, 80] 80 #[(Sl.val q4.1), (Sl.val (⟨some b25, 1, 1⟩ : Sl))]) Sl.val fun s26 =>
  go5 (s26, wI (q4.2 + 1)))) ((⟨some b6, 0, 0⟩ : Sl), 0))
  (M.loop (fun (go29 : Int → M _) (q28 : Int) =>
  M.ite (decide (q28 < p1))
  (M.new 82 [] fun b30 =>
  M.loop (fun (go32 : (Sl × Int) → M _) (q31 : (Sl × Int)) =>
  M.ite (decide (q31.2 < (x2.len : Int)))
  (M.new 4 [] fun b33 =>
  M.ix q4.1 q31.2 1 fun a34 =>
  M.ld Sl.val a34 fun x35 =>
  M.run Try.prog (Builtin.append_ #[82, 82] 82 #[(Sl.val (⟨some b33, 0, 0⟩ : Sl)), (Sl.val x35)]) Sl.val fun s36 =>
  M.new 82 [(Sl.val s36)] fun b37 =>
  M.run Try.prog (Builtin.append_ #[80, 80] 80 #[(Sl.val q31.1), (Sl.val (⟨some b37, 1, 1⟩ : Sl))]) Sl.val fun s38 =>
  go32 (s38, wI (q31.2 + 1)))
  (M.loop (fun (go40 : (Bool × Int) → M _) (q39 : (Bool × Int)) =>
  M.ite (decide (q39.2 < (x2.len : Int)))
  (M.loop (fun (go42 : (Bool × Int) → M _) (q41 : (Bool × Int)) =>
  M.ite (decide (q41.2 < (x2.len : Int)))
  (M.loop (fun (go44 : (Bool × Int) → M _) (q43 : (Bool × Int)) =>
  M.join (fun (q52 : Bool) =>
  M.ite q52
  (M.drew <|
  M.ix q4.1 q39.2 1 fun a53 =>
  M.ld Sl.val a53 fun x54 =>
  M.ld Sl.val (b1.add 257) fun x55 =>
  M.ix x55 q39.2 1 fun a56 =>
  M.ld Sl.val a56 fun x57 =>
  M.ix x57 q43.2 1 fun a58 =>
  M.ld vI a58 fun x59 =>
  M.ix q31.1 x59 1 fun a60 =>
  M.ld Sl.val a60 fun x61 =>
  M.ld Sl.val (b1.add 257) fun x62 =>
  M.ix x62 q41.2 1 fun a63 =>
  M.ld Sl.val a63 fun x64 =>
  M.ix x64 q43.2 1 fun a65 =>
  M.ld vI a65 fun x66 =>
  M.ix x61 x66 1 fun a67 =>
  M.ld Value.bool a67 fun x68 =>
  M.ix x54 q41.2 1 fun a69 =>
  M.st a69 (Value.bool x68) <|
  M.ite q43.1
  (go44 (true, wI (q43.2 + 1)))
  (M.ix q4.1 q39.2 1 fun a71 =>
  M.ld Sl.val a71 fun x72 =>
  M.ix x72 q41.2 1 fun a73 =>
  M.ld Value.bool a73 fun x74 =>
  go44 (x74, wI (q43.2 + 1))))
  (go42 (q43.1, wI (q41.2 + 1)))) fun J45 =>
  M.ld vI (b1.add 256) fun x46 =>
  M.ite (decide (q43.2 < x46))
  (M.ix q4.1 q39.2 1 fun a48 =>
  M.ld Sl.val a48 fun x49 =>
  M.ix x49 q41.2 1 fun a50 =>
  M.ld Value.bool a50 fun x51 =>
  J45 (!x51))
  (J45 false)) (q41.1, 0))
  (go40 (q41.1, wI (q39.2 + 1)))) (q39.1, 0))
  (M.ite (!q39.1)
  (M.ret q4.1)
  (go29 (wI (q28 + 1))))) (false, 0))) ((⟨some b30, 0, 0⟩ : Sl), 0))
  (M.ret q4.1)) 0)) ((⟨some b3, 0, 0⟩ : Sl), 0)
/-- doublet/moore.last, function 69. -/
def moore_last (p0 : Dfv) (p1 : Int) : M (Int × Sl) :=
  M.new 27 (Dfv.cs p0) fun b1 =>
  M.new 3 [(vI p1)] fun b2 =>
  M.new 3 [(vI 0)] fun b3 =>
  M.st b3 (vI (-1)) <|
  M.new 24 [(Sl.val Sl.nil)] fun b4 =>
  M.ldA Dfv.cs b1 fun v5 =>
  M.call Try.prog 7 [(.agg (Dfv.cs v5).toArray)] Value.bool fun r6 =>
  M.ite (!r6)
  (M.drew <|
  M.ld vI b3 fun x7 =>
  M.ld Sl.val b4 fun x8 =>
  M.ret (x7, x8))
  (M.ldA Dfv.cs b1 fun v9 =>
  M.call Try.prog 87 [(.agg (Dfv.cs v9).toArray)] (fun v : Value => v) fun r10 =>
  M.range Try.prog r10 (fun y11 : (Int × Sl) => [(vI y11.1), (Sl.val y11.2)]) (fun y11 =>
  M.st b3 (vI y11.1) <|
  M.st b4 (Sl.val y11.2) <|
  M.ld vI b2 fun x12 =>
  M.ite (decide (x12 ≤ y11.1))
  (M.ret (some 0))
  (M.ret none)) fun __j =>
  M.drew <|
  M.ld vI b3 fun x14 =>
  M.ld Sl.val b4 fun x15 =>
  M.ret (x14, x15))
/-- doublet/dfa.Run, function 70. -/
def dfa_Run (p0 : Dfv) (p1 : Sl) : M Int :=
  M.new 27 (Dfv.cs p0) fun b1 =>
  M.ldA Dfv.cs b1 fun v2 =>
  M.call Try.prog 7 [(.agg (Dfv.cs v2).toArray)] Value.bool fun r3 =>
  M.ite (!r3)
  (M.ret (-1))
  (M.loop (fun (go5 : (Int × Int) → M _) (q4 : (Int × Int)) =>
  M.ite (decide (q4.2 < (p1.len : Int)))
  (M.ix p1 q4.2 1 fun a6 =>
  M.ld vU8 a6 fun x7 =>
  M.drew <|
  M.ld Sl.val (b1.add 257) fun x8 =>
  M.ix x8 q4.1 1 fun a9 =>
  M.ld Sl.val a9 fun x10 =>
  M.ixA (b1.add 0) 256 x7 1 fun a11 =>
  M.ld vU8 a11 fun x12 =>
  M.ix x10 x12 1 fun a13 =>
  M.ld vI a13 fun x14 =>
  go5 (x14, wI (q4.2 + 1)))
  (M.ret q4.1)) (0, 0))
/-- doublet/dfa.walk$1, function 71. -/
def dfa_walk_c1 (p0 : Value) (c0 : Addr) (c1 : Addr) (c2 : Addr) : M Unit :=
  M.ld vI c0 fun x1 =>
  M.run Try.prog (Instr.makeSlice 82 (vI x1) (vI x1)) Sl.val fun s2 =>
  M.ld Sl.val c1 fun x3 =>
  M.call Try.prog 72 [(Sl.val x3)] Sl.val fun r4 =>
  M.ld Sl.val c1 fun x5 =>
  M.loop (fun (go7 : Int → M _) (q6 : Int) =>
  M.ite (decide (q6 < (x5.len : Int)))
  (M.ix x5 q6 1 fun a8 =>
  M.ld vI a8 fun x9 =>
  M.ix s2 x9 1 fun a10 =>
  M.st a10 (Value.bool true) <|
  go7 (wI (q6 + 1)))
  (M.loop (fun (go12 : (Sl × Int) → M _) (q11 : (Sl × Int)) =>
  M.ite (decide (q11.2 < (q11.1.len : Int)))
  (M.ix q11.1 q11.2 1 fun a13 =>
  M.ld vI a13 fun x14 =>
  M.callv Try.prog p0 [(vI x14)] Value.bool fun r15 =>
  M.ite (!r15)
  (M.ret ())
  (M.drew <|
  M.ld (fun v : Value => v) c2 fun x16 =>
  M.ix q11.1 q11.2 1 fun a17 =>
  M.ld vI a17 fun x18 =>
  M.callv Try.prog x16 [(vI x18)] Sl.val fun r19 =>
  M.loop (fun (go21 : (Sl × Int) → M _) (q20 : (Sl × Int)) =>
  M.ite (decide (q20.2 < (r19.len : Int)))
  (M.ix r19 q20.2 1 fun a22 =>
  M.ld vI a22 fun x23 =>
  M.ix s2 x23 1 fun a24 =>
  M.ld Value.bool a24 fun x25 =>
  M.ite x25
  (go21 (q20.1, wI (q20.2 + 1)))
  (M.ix s2 x23 1 fun a26 =>
  M.st a26 (Value.bool true) <|
  M.new 3 [(vI x23)] fun b27 =>
  M.run Try.prog (Builtin.append_ #[24, 24] 24 #[(Sl.val q20.1), (Sl.val (⟨some b27, 1, 1⟩ : Sl))]) Sl.val fun s28 =>
  go21 (s28, wI (q20.2 + 1))))
  (go12 (q20.1, wI (q11.2 + 1)))) (q11.1, 0)))
  (M.ret ())) (r4, 0))) 0
/-- slices.Clone[[]int,int], function 72. -/
def slices_Clone_Lintint (p0 : Sl) : M Sl :=
  M.ite (Option.isNone p0.addr)
  (M.ret Sl.nil)
  (M.new 3 [] fun b1 =>
  M.run Try.prog (Builtin.append_ #[24, 24] 24 #[(Sl.val (⟨some b1, 0, 0⟩ : Sl)), (Sl.val p0)]) Sl.val fun s2 =>
  M.ret s2)
/-- doublet/quotient.stable$1, function 73. -/
def quotient_stable_c1 (p0 : Int) (p1 : Int) (c0 : Addr) : M Bool :=
  M.drew <|
  M.ld Sl.val c0 fun x1 =>
  M.ix x1 p0 1 fun a2 =>
  M.ld vI a2 fun x3 =>
  M.ld Sl.val c0 fun x4 =>
  M.ix x4 p1 1 fun a5 =>
  M.ld vI a5 fun x6 =>
  M.ret (decide (x3 = x6))
/-- slices.EqualFunc[[]int,[]int,int,int], function 74. -/
def slices_EqualFunc_LintLintintint (p0 : Sl) (p1 : Sl) (p2 : Value) : M Bool :=
  M.ite (!decide ((p0.len : Int) = (p1.len : Int)))
  (M.ret false)
  (M.loop (fun (go2 : Int → M _) (q1 : Int) =>
  M.ite (decide (q1 < (p0.len : Int)))
  (M.ix p0 q1 1 fun a3 =>
  M.ld vI a3 fun x4 =>
  M.ix p1 q1 1 fun a5 =>
  M.ld vI a5 fun x6 =>
  M.callv Try.prog p2 [(vI x4), (vI x6)] Value.bool fun r7 =>
  M.ite (!r7)
  (M.ret false)
  (go2 (wI (q1 + 1))))
  (M.ret true)) 0)
/-- doublet/dfa.places, function 75. -/
def dfa_places (p0 : Int) (p1 : Sl) : M (Sl × Bool) :=
  M.new 3 [(vI (-1))] fun b1 =>
  M.call Try.prog 88 [(Sl.val (⟨some b1, 1, 1⟩ : Sl)), (vI p0)] Sl.val fun r2 =>
  M.loop (fun (go4 : Int → M _) (q3 : Int) =>
  M.ite (decide (q3 < (p1.len : Int)))
  (M.ix p1 q3 1 fun a5 =>
  M.ld vI a5 fun x6 =>
  M.join (fun (q12 : Bool) =>
  M.ite q12
  (M.ret (Sl.nil, false))
  (M.ix r2 x6 1 fun a13 =>
  M.st a13 (vI q3) <|
  go4 (wI (q3 + 1)))) fun J7 =>
  M.ite (decide (x6 < 0))
  (J7 true)
  (M.ite (decide (p0 ≤ x6))
  (J7 true)
  (M.ix r2 x6 1 fun a10 =>
  M.ld vI a10 fun x11 =>
  J7 (decide (0 ≤ x11)))))
  (M.drew <|
  M.ite (decide (0 < (p1.len : Int)))
  (M.ix p1 0 1 fun a16 =>
  M.ld vI a16 fun x17 =>
  M.ret (r2, decide (x17 = 0)))
  (M.ret (r2, false)))) 0
/-- doublet/parts.number[uint8], function 76. -/
def parts_number_uint8 (p0 : Value) : M ((Nat → Int) × Int) :=
  M.new 22 (Ar.cs (fun _ => 0)) fun b1 =>
  M.new 22 (Ar.cs (fun _ => 0)) fun b2 =>
  M.run Try.prog (Instr.makeMap 104 none) Value.map fun m3 =>
  M.loop (fun (go5 : Int → M _) (q4 : Int) =>
  M.ite (decide (q4 < 256))
  (M.callv Try.prog p0 [(vI q4)] vU8 fun r6 =>
  M.look Try.prog (Instr.lookup 104 (Value.map m3) (vU8 r6) true) (fun x : (Int × Bool) => .tuple #[(vU8 x.1), (Value.bool x.2)]) fun x7 =>
  M.join (fun (q11 : Int) =>
  M.ixA b2 256 q4 1 fun a12 =>
  M.st a12 (vU8 q11) <|
  go5 (wI (q4 + 1))) fun J8 =>
  M.ite (!x7.2)
  (M.look Try.prog (Builtin.len_ #[104] 3 #[(Value.map m3)]) vI fun x9 =>
  M.runU Try.prog (Instr.mapUpdate 104 (Value.map m3) (vU8 r6) (vU8 (IntKind.wrap .u8 x9))) <|
  J8 (IntKind.wrap .u8 x9))
  (J8 x7.1))
  (M.ldA Ar.cs b2 fun v13 =>
  M.look Try.prog (Builtin.len_ #[104] 3 #[(Value.map m3)]) vI fun x14 =>
  M.stA b1 (Ar.cs v13) <|
  M.ldA Ar.cs b1 fun v15 =>
  M.ret (v15, x14))) 0
/-- doublet/parts.Norm$1, function 77. -/
def parts_Norm_c1 (p0 : Int) (c0 : Addr) : M Int :=
  M.ixA c0 256 p0 1 fun a1 =>
  M.ld vU8 a1 fun x2 =>
  M.ret x2
/-- doublet/spec.run[string], function 78. -/
def spec_run_string (p0 : ByteArray) : M Int :=
  M.loop (fun (go2 : Int → M _) (q1 : Int) =>
  M.join (fun (q12 : Bool) =>
  M.ite q12
  (go2 (wI (q1 + 1)))
  (M.ret q1)) fun J3 =>
  M.ite (decide (q1 < (p0.size : Int)))
  (M.look Try.prog (Instr.index 9 (Value.string p0) (vI q1)) vU8 fun x5 =>
  M.call Try.prog 89 [(vU8 x5)] Value.bool fun r6 =>
  M.ite r6
  (J3 true)
  (M.ite (decide (0 < q1))
  (M.look Try.prog (Instr.index 9 (Value.string p0) (vI q1)) vU8 fun x9 =>
  M.ite (decide (48 ≤ x9))
  (M.look Try.prog (Instr.index 9 (Value.string p0) (vI q1)) vU8 fun x11 =>
  J3 (decide (x11 ≤ 57)))
  (J3 false))
  (J3 false)))
  (J3 false)) 0
/-- slices.Index[[]string,string], function 79. -/
def slices_Index_Lstringstring (p0 : Sl) (p1 : ByteArray) : M Int :=
  M.loop (fun (go2 : Int → M _) (q1 : Int) =>
  M.ite (decide (q1 < (p0.len : Int)))
  (M.ix p0 q1 1 fun a3 =>
  M.ld Value.string a3 fun x4 =>
  M.ite (ByteArray.toList p1 == ByteArray.toList x4)
  (M.ret q1)
  (go2 (wI (q1 + 1))))
  (M.ret (-1))) 0
/-- slices.stableCmpFunc[int], function 80. -/
def slices_stableCmpFunc_int (p0 : Sl) (p1 : Int) (p2 : Value) : M Unit :=
  M.loop (fun (go2 : (Int × Int) → M _) (q1 : (Int × Int)) =>
  M.ite (decide (q1.2 ≤ p1))
  (M.call Try.prog 90 [(Sl.val p0), (vI q1.1), (vI q1.2), p2] vUnit fun _r3 =>
  go2 (q1.2, wI (q1.2 + 20)))
  (M.call Try.prog 90 [(Sl.val p0), (vI q1.1), (vI p1), p2] vUnit fun _r4 =>
  M.loop (fun (go6 : Int → M _) (q5 : Int) =>
  M.ite (decide (q5 < p1))
  (M.loop (fun (go8 : (Int × Int) → M _) (q7 : (Int × Int)) =>
  M.ite (decide (q7.2 ≤ p1))
  (M.call Try.prog 91 [(Sl.val p0), (vI q7.1), (vI (wI (q7.1 + q5))), (vI q7.2), p2] vUnit fun _r9 =>
  go8 (q7.2, wI (q7.2 + (wI (2 * q5)))))
  (M.ite (decide ((wI (q7.1 + q5)) < p1))
  (M.call Try.prog 91 [(Sl.val p0), (vI q7.1), (vI (wI (q7.1 + q5))), (vI p1), p2] vUnit fun _r10 =>
  go6 (wI (q5 * 2)))
  (go6 (wI (q5 * 2))))) (0, wI (2 * q5)))
  (M.ret ())) 20)) (0, 20)
/-- (*doublet/hopcroft.parter).askLesser$1, function 81. -/
def hopcroft_parter_askLesser_c1 (p0 : Int) (c0 : Addr) : M Int :=
  M.drew <|
  M.ld vP c0 fun x1 =>
  M.nn x1 fun a2 =>
  M.ld Sl.val (a2.add 3) fun x3 =>
  M.ix x3 p0 3 fun a4 =>
  M.ld vI (a4.add 1) fun x5 =>
  M.ld vP c0 fun x6 =>
  M.nn x6 fun a7 =>
  M.ld Sl.val (a7.add 3) fun x8 =>
  M.ix x8 p0 3 fun a9 =>
  M.ld vI (a9.add 0) fun x10 =>
  M.ret (wI (x5 - x10))
/-- doublet/doubletref19.Norm, function 82. -/
def r19_Norm (p0 : (Nat → Int)) : M ((Nat → Int) × Int) :=
  M.new 22 (Ar.cs p0) fun b1 =>
  M.new 22 (Ar.cs (fun __ => 0)) fun b2 =>
  M.ldA Ar.cs b1 fun v3 =>
  M.call Try.prog 93 [(.agg (Ar.cs v3).toArray)] Sl.val fun r4 =>
  M.call Try.prog 92 [(Sl.val r4)] (fun x : ((Nat → Int) × Int) => .tuple #[(.agg (Ar.cs x.1).toArray), (vI x.2)]) fun r5 =>
  M.stA b2 (Ar.cs r5.1) <|
  M.ldA Ar.cs b2 fun v6 =>
  M.ret (v6, r5.2)
/-- doublet/doubletref09.May, function 83. -/
def r09_May (p0 : Int) (p1 : Bool) : M Bool :=
  M.join (fun (q3 : Bool) =>
  M.ite q3
  (M.ret (!p1))
  (M.ite (decide (97 ≤ p0))
  (M.ite (decide (p0 ≤ 122))
  (M.ret true)
  (M.ite (decide (65 ≤ p0))
  (M.ite (decide (p0 ≤ 90))
  (M.ret true)
  (M.ret (decide (p0 = 95))))
  (M.ret (decide (p0 = 95)))))
  (M.ite (decide (65 ≤ p0))
  (M.ite (decide (p0 ≤ 90))
  (M.ret true)
  (M.ret (decide (p0 = 95))))
  (M.ret (decide (p0 = 95)))))) fun J1 =>
  M.ite (decide (48 ≤ p0))
  (J1 (decide (p0 ≤ 57)))
  (J1 false)
/-- doublet/doubletref20.place, function 84. -/
def r20_place (p0 : Sl) (p1 : Int) : M Int :=
  M.loop (fun (go2 : Int → M _) (q1 : Int) =>
  M.ite (decide (q1 < (p0.len : Int)))
  (M.ix p0 q1 1 fun a3 =>
  M.ld vI a3 fun x4 =>
  M.ite (decide (x4 = p1))
  (M.ret q1)
  (go2 (wI (q1 + 1))))
  (M.ret (-1))) 0
/-- doublet/doubletref17.Has, function 85. -/
def r17_Has (p0 : Sl) (p1 : Int) : M Bool :=
  M.loop (fun (go2 : Int → M _) (q1 : Int) =>
  M.ite (decide (q1 < (p0.len : Int)))
  (M.ix p0 q1 1 fun a3 =>
  M.ld vI a3 fun x4 =>
  M.ite (decide (x4 = p1))
  (M.ret true)
  (go2 (wI (q1 + 1))))
  (M.ret false)) 0
/-- doublet/doubletref23.first, function 86. -/
def r23_first (p0 : Sl) (p1 : Int) : M Int :=
  M.loop (fun (go2 : Int → M _) (q1 : Int) =>
  M.ite (decide (q1 < (p0.len : Int)))
  (M.ix p0 q1 1 fun a3 =>
  M.ld vI a3 fun x4 =>
  M.ite (decide (x4 = p1))
  (M.ret q1)
  (go2 (wI (q1 + 1))))
  (M.ret (-1))) 0
/-- doublet/moore.rounds, function 87. -/
def moore_rounds (p0 : Dfv) : M Value :=
  M.new 27 (Dfv.cs p0) fun b1 =>
  M.ret (.func (.func 94) #[] #[(vA b1)])
/-- slices.Repeat[[]int,int], function 88. -/
def slices_Repeat_Lintint (p0 : Sl) (p1 : Int) : M Sl :=
  M.ite (decide (p1 < 0))
  (M.bad)
  (M.call Try.prog 96 [((Value.int .u64) (IntKind.wrap .u64 (p0.len : Int))), ((Value.int .u64) (IntKind.wrap .u64 p1))] (fun x : (Int × Int) => .tuple #[((Value.int .u64) x.1), ((Value.int .u64) x.2)]) fun r1 =>
  M.join (fun (q4 : Bool) =>
  M.ite q4
  (M.bad)
  (M.run Try.prog (Instr.makeSlice 24 (vI (wI r1.2)) (vI (wI r1.2))) Sl.val fun s5 =>
  M.run Try.prog (Builtin.copy_ #[24, 24] 3 #[(Sl.val s5), (Sl.val p0)]) vI fun s6 =>
  M.loop (fun (go8 : Int → M _) (q7 : Int) =>
  M.ite (decide (q7 < (s5.len : Int)))
  (M.drew <|
  M.cut s5 q7 (s5.len : Int) (s5.cap : Int) 1 fun s9 =>
  M.cut s5 0 q7 (s5.cap : Int) 1 fun s10 =>
  M.run Try.prog (Builtin.copy_ #[24, 24] 3 #[(Sl.val s9), (Sl.val s10)]) vI fun s11 =>
  go8 (wI (q7 + s11)))
  (M.ret s5)) s6)) fun J2 =>
  M.ite (decide (0 < r1.1))
  (J2 true)
  (J2 (decide (9223372036854775807 < r1.2))))
/-- doublet/spec.letter, function 89. -/
def spec_letter (p0 : Int) : M Bool :=
  M.ite (decide (p0 = 95))
  (M.ret true)
  (M.look Try.prog (binOp .or 5 (vU8 p0) (vU8 32)) vU8 fun x2 =>
  M.ite (decide (97 ≤ x2))
  (M.look Try.prog (binOp .or 5 (vU8 p0) (vU8 32)) vU8 fun x4 =>
  M.ret (decide (x4 ≤ 122)))
  (M.ret false))
/-- slices.insertionSortCmpFunc[int], function 90. -/
def slices_insertionSortCmpFunc_int (p0 : Sl) (p1 : Int) (p2 : Int) (p3 : Value) : M Unit :=
  M.loop (fun (go2 : Int → M _) (q1 : Int) =>
  M.ite (decide (q1 < p2))
  (M.loop (fun (go4 : Int → M _) (q3 : Int) =>
  M.join (fun (q12 : Bool) =>
  M.ite q12
  (M.drew <|
  M.ix p0 (wI (q3 - 1)) 1 fun a13 =>
  M.ld vI a13 fun x14 =>
  M.ix p0 q3 1 fun a15 =>
  M.ld vI a15 fun x16 =>
  M.ix p0 q3 1 fun a17 =>
  M.st a17 (vI x14) <|
  M.ix p0 (wI (q3 - 1)) 1 fun a18 =>
  M.st a18 (vI x16) <|
  go4 (wI (q3 - 1)))
  (go2 (wI (q1 + 1)))) fun J5 =>
  M.drew <|
  M.ite (decide (p1 < q3))
  (M.ix p0 q3 1 fun a7 =>
  M.ld vI a7 fun x8 =>
  M.ix p0 (wI (q3 - 1)) 1 fun a9 =>
  M.ld vI a9 fun x10 =>
  M.callv Try.prog p3 [(vI x8), (vI x10)] vI fun r11 =>
  J5 (decide (r11 < 0)))
  (J5 false)) q1)
  (M.ret ())) (wI (p1 + 1))
/-- slices.symMergeCmpFunc[int], function 91. -/
def slices_symMergeCmpFunc_int (p0 : Sl) (p1 : Int) (p2 : Int) (p3 : Int) (p4 : Value) : M Unit :=
  M.ite (decide ((wI (p2 - p1)) = 1))
  (M.loop (fun (go2 : (Int × Int) → M _) (q1 : (Int × Int)) =>
  M.ite (decide (q1.1 < q1.2))
  (M.look Try.prog (binOp .shr 114 ((Value.int .u64) (IntKind.wrap .u64 (wI (q1.1 + q1.2)))) ((Value.int .u64) 1)) (Value.int .u64) fun x3 =>
  M.drew <|
  M.ix p0 (wI x3) 1 fun a4 =>
  M.ld vI a4 fun x5 =>
  M.ix p0 p1 1 fun a6 =>
  M.ld vI a6 fun x7 =>
  M.callv Try.prog p4 [(vI x5), (vI x7)] vI fun r8 =>
  M.ite (decide (r8 < 0))
  (go2 (wI ((wI x3) + 1), q1.2))
  (go2 (q1.1, wI x3)))
  (M.loop (fun (go11 : Int → M _) (q10 : Int) =>
  M.ite (decide (q10 < (wI (q1.1 - 1))))
  (M.drew <|
  M.ix p0 (wI (q10 + 1)) 1 fun a12 =>
  M.ld vI a12 fun x13 =>
  M.ix p0 q10 1 fun a14 =>
  M.ld vI a14 fun x15 =>
  M.ix p0 q10 1 fun a16 =>
  M.st a16 (vI x13) <|
  M.ix p0 (wI (q10 + 1)) 1 fun a17 =>
  M.st a17 (vI x15) <|
  go11 (wI (q10 + 1)))
  (M.ret ())) p1)) (p2, p3))
  (M.ite (decide ((wI (p3 - p2)) = 1))
  (M.loop (fun (go21 : (Int × Int) → M _) (q20 : (Int × Int)) =>
  M.ite (decide (q20.1 < q20.2))
  (M.look Try.prog (binOp .shr 114 ((Value.int .u64) (IntKind.wrap .u64 (wI (q20.1 + q20.2)))) ((Value.int .u64) 1)) (Value.int .u64) fun x22 =>
  M.drew <|
  M.ix p0 p2 1 fun a23 =>
  M.ld vI a23 fun x24 =>
  M.ix p0 (wI x22) 1 fun a25 =>
  M.ld vI a25 fun x26 =>
  M.callv Try.prog p4 [(vI x24), (vI x26)] vI fun r27 =>
  M.ite (!(decide (r27 < 0)))
  (go21 (wI ((wI x22) + 1), q20.2))
  (go21 (q20.1, wI x22)))
  (M.loop (fun (go30 : Int → M _) (q29 : Int) =>
  M.ite (decide (q20.1 < q29))
  (M.drew <|
  M.ix p0 (wI (q29 - 1)) 1 fun a31 =>
  M.ld vI a31 fun x32 =>
  M.ix p0 q29 1 fun a33 =>
  M.ld vI a33 fun x34 =>
  M.ix p0 q29 1 fun a35 =>
  M.st a35 (vI x32) <|
  M.ix p0 (wI (q29 - 1)) 1 fun a36 =>
  M.st a36 (vI x34) <|
  go30 (wI (q29 - 1)))
  (M.ret ())) p2)) (p1, p2))
  (M.look Try.prog (binOp .shr 114 ((Value.int .u64) (IntKind.wrap .u64 (wI (p1 + p3)))) ((Value.int .u64) 1)) (Value.int .u64) fun x39 =>
  M.join (fun (q42 : (Int × Int)) =>
  M.loop (fun (go44 : (Int × Int) → M _) (q43 : (Int × Int)) =>
  M.ite (decide (q43.1 < q43.2))
  (M.look Try.prog (binOp .shr 114 ((Value.int .u64) (IntKind.wrap .u64 (wI (q43.1 + q43.2)))) ((Value.int .u64) 1)) (Value.int .u64) fun x45 =>
  M.drew <|
  M.ix p0 (wI ((wI ((wI ((wI x39) + p2)) - 1)) - (wI x45))) 1 fun a46 =>
  M.ld vI a46 fun x47 =>
  M.ix p0 (wI x45) 1 fun a48 =>
  M.ld vI a48 fun x49 =>
  M.callv Try.prog p4 [(vI x47), (vI x49)] vI fun r50 =>
  M.ite (!(decide (r50 < 0)))
  (go44 (wI ((wI x45) + 1), q43.2))
  (go44 (q43.1, wI x45)))
  (M.join (fun (_q58 : Unit) =>
  M.join (fun (_q65 : Unit) =>
  M.join (fun (q68 : Bool) =>
  M.ite q68
  (M.call Try.prog 91 [(Sl.val p0), (vI (wI x39)), (vI (wI ((wI ((wI x39) + p2)) - q43.1))), (vI p3), p4] vUnit fun _r69 =>
  M.ret ())
  (M.ret ())) fun J66 =>
  M.ite (decide ((wI x39) < (wI ((wI ((wI x39) + p2)) - q43.1))))
  (J66 (decide ((wI ((wI ((wI x39) + p2)) - q43.1)) < p3)))
  (J66 false)) fun J59 =>
  M.join (fun (q62 : Bool) =>
  M.ite q62
  (M.call Try.prog 91 [(Sl.val p0), (vI p1), (vI q43.1), (vI (wI x39)), p4] vUnit fun _r63 =>
  J59 ())
  (J59 ())) fun J60 =>
  M.ite (decide (p1 < q43.1))
  (J60 (decide (q43.1 < (wI x39))))
  (J60 false)) fun J52 =>
  M.join (fun (q55 : Bool) =>
  M.ite q55
  (M.call Try.prog 97 [(Sl.val p0), (vI q43.1), (vI p2), (vI (wI ((wI ((wI x39) + p2)) - q43.1))), p4] vUnit fun _r56 =>
  J52 ())
  (J52 ())) fun J53 =>
  M.ite (decide (q43.1 < p2))
  (J53 (decide (p2 < (wI ((wI ((wI x39) + p2)) - q43.1)))))
  (J53 false))) (q42.1, q42.2)) fun J40 =>
  M.ite (decide ((wI x39) < p2))
  (J40 (wI ((wI ((wI x39) + p2)) - p3), wI x39))
  (J40 (p1, p2))))
/-- doublet/doubletref19.numbers, function 92. -/
def r19_numbers (p0 : Sl) : M ((Nat → Int) × Int) :=
  M.new 22 (Ar.cs (fun _ => 0)) fun b1 =>
  M.new 22 (Ar.cs (fun _ => 0)) fun b2 =>
  M.stA b2 (Ar.cs (fun _ => 0)) <|
  M.loop (fun (go4 : Int → M _) (q3 : Int) =>
  M.ite (decide (q3 < (p0.len : Int)))
  (M.loop (fun (go6 : Int → M _) (q5 : Int) =>
  M.ite (decide (q5 < 256))
  (M.ix p0 q3 4 fun a7 =>
  M.ldA A4.cs a7 fun v8 =>
  M.call Try.prog 98 [(.agg (A4.cs v8).toArray), (vI q5)] Value.bool fun r9 =>
  M.ite r9
  (M.ixA b2 256 q5 1 fun a10 =>
  M.st a10 (vU8 (IntKind.wrap .u8 q3)) <|
  go6 (wI (q5 + 1)))
  (go6 (wI (q5 + 1))))
  (go4 (wI (q3 + 1)))) 0)
  (M.ldA Ar.cs b2 fun v13 =>
  M.stA b1 (Ar.cs v13) <|
  M.ldA Ar.cs b1 fun v14 =>
  M.ret (v14, (p0.len : Int)))) 0
/-- doublet/doubletref19.Sets, function 93. -/
def r19_Sets (p0 : (Nat → Int)) : M Sl :=
  M.new 22 (Ar.cs p0) fun b1 =>
  M.new 120 [] fun b2 =>
  M.new 121 (Ab.cs (fun _ => false)) fun b3 =>
  M.stA b3 (Ab.cs (fun _ => false)) <|
  M.loop (fun (go5 : (Sl × Int) → M _) (q4 : (Sl × Int)) =>
  M.ite (decide (q4.2 < 256))
  (M.ixA b1 256 q4.2 1 fun a6 =>
  M.ld vU8 a6 fun x7 =>
  M.ixA b3 256 x7 1 fun a8 =>
  M.ld Value.bool a8 fun x9 =>
  M.ite x9
  (go5 (q4.1, wI (q4.2 + 1)))
  (M.ixA b1 256 q4.2 1 fun a10 =>
  M.ld vU8 a10 fun x11 =>
  M.ixA b3 256 x11 1 fun a12 =>
  M.st a12 (Value.bool true) <|
  M.new 120 (A4.cs (fun _ => 0)) fun b13 =>
  M.stA b13 (A4.cs (fun _ => 0)) <|
  M.loop (fun (go15 : Int → M _) (q14 : Int) =>
  M.ite (decide (q14 < 256))
  (M.drew <|
  M.ixA b1 256 q14 1 fun a16 =>
  M.ld vU8 a16 fun x17 =>
  M.ixA b1 256 q4.2 1 fun a18 =>
  M.ld vU8 a18 fun x19 =>
  M.ite (decide (x17 = x19))
  (M.ldA A4.cs b13 fun v20 =>
  M.call Try.prog 99 [(.agg (A4.cs v20).toArray), (vI q14)] (fun x : (Nat → Int) => .agg (A4.cs x).toArray) fun r21 =>
  M.stA b13 (A4.cs r21) <|
  go15 (wI (q14 + 1)))
  (go15 (wI (q14 + 1))))
  (M.ldA A4.cs b13 fun v23 =>
  M.new 120 ((A4.cs v23)) fun b24 =>
  M.run Try.prog (Builtin.append_ #[110, 110] 110 #[(Sl.val q4.1), (Sl.val (⟨some b24, 1, 1⟩ : Sl))]) Sl.val fun s25 =>
  go5 (s25, wI (q4.2 + 1)))) q4.2))
  (M.ret q4.1)) ((⟨some b2, 0, 0⟩ : Sl), 0)
/-- doublet/moore.rounds$1, function 94. -/
def moore_rounds_c1 (p0 : Value) (c0 : Addr) : M Unit :=
  M.ld Sl.val (c0.add 258) fun x1 =>
  M.call Try.prog 31 [(Sl.val x1)] Sl.val fun r2 =>
  M.loop (fun (go4 : (Sl × Int) → M _) (q3 : (Sl × Int)) =>
  M.callv Try.prog p0 [(vI q3.2), (Sl.val q3.1)] Value.bool fun r5 =>
  M.ite r5
  (M.ldA Dfv.cs c0 fun v6 =>
  M.call Try.prog 95 [(.agg (Dfv.cs v6).toArray), (Sl.val q3.1)] Sl.val fun r7 =>
  M.call Try.prog 41 [(Sl.val r7), (Sl.val q3.1)] Value.bool fun r8 =>
  M.ite r8
  (M.ret ())
  (go4 (r7, wI (q3.2 + 1))))
  (M.ret ())) (r2, 0)
/-- doublet/moore.round, function 95. -/
def moore_round (p0 : Dfv) (p1 : Sl) : M Sl :=
  M.new 27 (Dfv.cs p0) fun b1 =>
  M.new 24 [(Sl.val p1)] fun b2 =>
  M.ld Sl.val b2 fun x3 =>
  M.ld vI (b1.add 256) fun x4 =>
  M.loop (fun (go6 : (Sl × Int) → M _) (q5 : (Sl × Int)) =>
  M.ite (decide (q5.2 < x4))
  (M.callv Try.prog (.func (.func 100) #[] #[(vA b2), (vA b1)]) [(vI q5.2)] Sl.val fun r7 =>
  M.call Try.prog 101 [(Sl.val q5.1), (Sl.val r7)] Sl.val fun r8 =>
  go6 (r8, wI (q5.2 + 1)))
  (M.ret q5.1)) (x3, 0)
/-- math/bits.Mul, function 96. -/
def math_bits_Mul (p0 : Int) (p1 : Int) : M (Int × Int) :=
  M.call Try.prog 103 [((Value.int .u64) p0), ((Value.int .u64) p1)] (fun x : (Int × Int) => .tuple #[((Value.int .u64) x.1), ((Value.int .u64) x.2)]) fun r1 =>
  M.ret (r1.1, r1.2)
/-- slices.rotateCmpFunc[int], function 97. -/
def slices_rotateCmpFunc_int (p0 : Sl) (p1 : Int) (p2 : Int) (p3 : Int) (p4 : Value) : M Unit :=
  M.loop (fun (go2 : (Int × Int) → M _) (q1 : (Int × Int)) =>
  M.ite (!decide (q1.1 = q1.2))
  (M.ite (decide (q1.2 < q1.1))
  (M.call Try.prog 104 [(Sl.val p0), (vI (wI (p2 - q1.1))), (vI p2), (vI q1.2), p4] vUnit fun _r3 =>
  go2 (wI (q1.1 - q1.2), q1.2))
  (M.call Try.prog 104 [(Sl.val p0), (vI (wI (p2 - q1.1))), (vI (wI ((wI (p2 + q1.2)) - q1.1))), (vI q1.1), p4] vUnit fun _r4 =>
  go2 (q1.1, wI (q1.2 - q1.1))))
  (M.call Try.prog 104 [(Sl.val p0), (vI (wI (p2 - q1.1))), (vI p2), (vI q1.1), p4] vUnit fun _r6 =>
  M.ret ())) (wI (p2 - p1), wI (p3 - p2))
/-- doublet/doubletref02.Has, function 98. -/
def r02_Has (p0 : (Nat → Int)) (p1 : Int) : M Bool :=
  M.new 120 (A4.cs p0) fun b1 =>
  M.asm ((64 : Int) ≠ 0) <|
  M.ixA b1 4 (wI (Int.tdiv p1 64)) 1 fun a2 =>
  M.ld (Value.int .u64) a2 fun x3 =>
  M.asm ((64 : Int) ≠ 0) <|
  M.look Try.prog (binOp .shr 118 ((Value.int .u64) x3) ((Value.int .u64) (IntKind.wrap .u64 (Int.tmod p1 64)))) (Value.int .u64) fun x4 =>
  M.look Try.prog (binOp .and 118 ((Value.int .u64) x4) ((Value.int .u64) 1)) (Value.int .u64) fun x5 =>
  M.ret (decide (x5 = 1))
/-- doublet/doubletref02.With, function 99. -/
def r02_With (p0 : (Nat → Int)) (p1 : Int) : M (Nat → Int) :=
  M.new 120 (A4.cs p0) fun b1 =>
  M.new 120 (A4.cs (fun __ => 0)) fun b2 =>
  M.asm ((64 : Int) ≠ 0) <|
  M.asm ((64 : Int) ≠ 0) <|
  M.ixA b1 4 (wI (Int.tdiv p1 64)) 1 fun a3 =>
  M.ld (Value.int .u64) a3 fun x4 =>
  M.asm ((64 : Int) ≠ 0) <|
  M.look Try.prog (binOp .shl 118 ((Value.int .u64) 1) ((Value.int .u64) (IntKind.wrap .u64 (Int.tmod p1 64)))) (Value.int .u64) fun x5 =>
  M.look Try.prog (binOp .or 118 ((Value.int .u64) x4) ((Value.int .u64) x5)) (Value.int .u64) fun x6 =>
  M.ixA b1 4 (wI (Int.tdiv p1 64)) 1 fun a7 =>
  M.st a7 ((Value.int .u64) x6) <|
  M.ldA A4.cs b1 fun v8 =>
  M.stA b2 (A4.cs v8) <|
  M.ldA A4.cs b2 fun v9 =>
  M.ret v9
/-- doublet/moore.round$1, function 100. -/
def moore_round_c1 (p0 : Int) (c0 : Addr) (c1 : Addr) : M Sl :=
  M.ld Sl.val c0 fun x1 =>
  M.run Try.prog (Instr.makeSlice 24 (vI (x1.len : Int)) (vI (x1.len : Int))) Sl.val fun s2 =>
  M.ld Sl.val (c1.add 257) fun x3 =>
  M.loop (fun (go5 : Int → M _) (q4 : Int) =>
  M.ite (decide (q4 < (x3.len : Int)))
  (M.ix x3 q4 1 fun a6 =>
  M.ld Sl.val a6 fun x7 =>
  M.drew <|
  M.ld Sl.val c0 fun x8 =>
  M.ix x7 p0 1 fun a9 =>
  M.ld vI a9 fun x10 =>
  M.ix x8 x10 1 fun a11 =>
  M.ld vI a11 fun x12 =>
  M.ix s2 q4 1 fun a13 =>
  M.st a13 (vI x12) <|
  go5 (wI (q4 + 1)))
  (M.ret s2)) 0
/-- doublet/quotient.Join, function 101. -/
def quotient_Join (p0 : Sl) (p1 : Sl) : M Sl :=
  M.new 24 [(Sl.val p0)] fun b1 =>
  M.new 24 [(Sl.val p1)] fun b2 =>
  M.ld Sl.val b1 fun x3 =>
  M.ld Sl.val b2 fun x4 =>
  M.call Try.prog 105 [(vI (if (x4.len : Int) < (x3.len : Int) then (x4.len : Int) else (x3.len : Int))), (.func (.func 106) #[] #[(vA b1), (vA b2)])] Sl.val fun r5 =>
  M.ret r5
/-- math/bits.Mul32, function 102. -/
def math_bits_Mul32 (p0 : Int) (p1 : Int) : M (Int × Int) :=
  M.look Try.prog (binOp .shr 118 ((Value.int .u64) (IntKind.wrap .u64 ((IntKind.wrap .u64 p0) * (IntKind.wrap .u64 p1)))) ((Value.int .u64) 32)) (Value.int .u64) fun x1 =>
  M.ret (IntKind.wrap .u32 x1, IntKind.wrap .u32 (IntKind.wrap .u64 ((IntKind.wrap .u64 p0) * (IntKind.wrap .u64 p1))))
/-- math/bits.Mul64, function 103. -/
def math_bits_Mul64 (p0 : Int) (p1 : Int) : M (Int × Int) :=
  M.look Try.prog (binOp .and 118 ((Value.int .u64) p0) ((Value.int .u64) 4294967295)) (Value.int .u64) fun x1 =>
  M.look Try.prog (binOp .shr 118 ((Value.int .u64) p0) ((Value.int .u64) 32)) (Value.int .u64) fun x2 =>
  M.look Try.prog (binOp .and 118 ((Value.int .u64) p1) ((Value.int .u64) 4294967295)) (Value.int .u64) fun x3 =>
  M.look Try.prog (binOp .shr 118 ((Value.int .u64) p1) ((Value.int .u64) 32)) (Value.int .u64) fun x4 =>
  M.look Try.prog (binOp .shr 118 ((Value.int .u64) (IntKind.wrap .u64 (x1 * x3))) ((Value.int .u64) 32)) (Value.int .u64) fun x5 =>
  M.look Try.prog (binOp .and 118 ((Value.int .u64) (IntKind.wrap .u64 ((IntKind.wrap .u64 (x2 * x3)) + x5))) ((Value.int .u64) 4294967295)) (Value.int .u64) fun x6 =>
  M.look Try.prog (binOp .shr 118 ((Value.int .u64) (IntKind.wrap .u64 ((IntKind.wrap .u64 (x2 * x3)) + x5))) ((Value.int .u64) 32)) (Value.int .u64) fun x7 =>
  M.look Try.prog (binOp .shr 118 ((Value.int .u64) (IntKind.wrap .u64 (x6 + (IntKind.wrap .u64 (x1 * x4))))) ((Value.int .u64) 32)) (Value.int .u64) fun x8 =>
  M.ret (IntKind.wrap .u64 ((IntKind.wrap .u64 ((IntKind.wrap .u64 (x2 * x4)) + x7)) + x8), IntKind.wrap .u64 (p0 * p1))
/-- slices.swapRangeCmpFunc[int], function 104. -/
def slices_swapRangeCmpFunc_int (p0 : Sl) (p1 : Int) (p2 : Int) (p3 : Int) (p4 : Value) : M Unit :=
  M.loop (fun (go2 : Int → M _) (q1 : Int) =>
  M.ite (decide (q1 < p3))
  (M.drew <|
  M.ix p0 (wI (p2 + q1)) 1 fun a3 =>
  M.ld vI a3 fun x4 =>
  M.ix p0 (wI (p1 + q1)) 1 fun a5 =>
  M.ld vI a5 fun x6 =>
  M.ix p0 (wI (p1 + q1)) 1 fun a7 =>
  M.st a7 (vI x4) <|
  M.ix p0 (wI (p2 + q1)) 1 fun a8 =>
  M.st a8 (vI x6) <|
  go2 (wI (q1 + 1)))
  (M.ret ())) 0
/-- doublet/quotient.number[[2]int], function 105. -/
def quotient_number_2int (p0 : Int) (p1 : Value) : M Sl :=
  M.run Try.prog (Instr.makeMap 50 none) Value.map fun m1 =>
  M.loop (fun (go3 : (Sl × Int) → M _) (q2 : (Sl × Int)) =>
  M.ite (decide (q2.2 < p0))
  (M.callv Try.prog p1 [(vI q2.2)] (fun x : (Int × Int) => .agg (Pr.cs x).toArray) fun r4 =>
  M.new 54 (Pr.cs (0, 0)) fun b5 =>
  M.stA b5 (Pr.cs r4) <|
  M.join (fun (_q12 : Unit) =>
  M.ldA Pr.cs b5 fun v13 =>
  M.look Try.prog (Instr.lookup 50 (Value.map m1) (.agg (Pr.cs v13).toArray) false) vI fun x14 =>
  M.new 3 [(vI x14)] fun b15 =>
  M.run Try.prog (Builtin.append_ #[24, 24] 24 #[(Sl.val q2.1), (Sl.val (⟨some b15, 1, 1⟩ : Sl))]) Sl.val fun s16 =>
  go3 (s16, wI (q2.2 + 1))) fun J6 =>
  M.ldA Pr.cs b5 fun v7 =>
  M.look Try.prog (Instr.lookup 50 (Value.map m1) (.agg (Pr.cs v7).toArray) true) (fun x : (Int × Bool) => .tuple #[(vI x.1), (Value.bool x.2)]) fun x8 =>
  M.ite (!x8.2)
  (M.ldA Pr.cs b5 fun v9 =>
  M.look Try.prog (Builtin.len_ #[50] 3 #[(Value.map m1)]) vI fun x10 =>
  M.runU Try.prog (Instr.mapUpdate 50 (Value.map m1) (.agg (Pr.cs v9).toArray) (vI x10)) <|
  J6 ())
  (J6 ()))
  (M.ret q2.1)) (Sl.nil, 0)
/-- doublet/quotient.Join$1, function 106. -/
def quotient_Join_c1 (p0 : Int) (c0 : Addr) (c1 : Addr) : M (Int × Int) :=
  M.new 54 (Pr.cs (0, 0)) fun b1 =>
  M.drew <|
  M.ld Sl.val c0 fun x2 =>
  M.ix x2 p0 1 fun a3 =>
  M.ld vI a3 fun x4 =>
  M.ld Sl.val c1 fun x5 =>
  M.ix x5 p0 1 fun a6 =>
  M.ld vI a6 fun x7 =>
  M.stA b1 (Pr.cs (⟨x4, x7⟩ : (Int × Int))) <|
  M.ldA Pr.cs b1 fun v8 =>
  M.ret v8
end S
end Go.Proofs.Ythepabefikobpaa

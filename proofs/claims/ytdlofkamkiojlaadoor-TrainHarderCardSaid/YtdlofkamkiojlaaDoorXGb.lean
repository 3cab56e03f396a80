/- Printed walks: the reference, single routes. Conditions: none. -/
import Derived.Test.YtdlofkamkiojlaaDoorXGa
set_option maxRecDepth 100000
set_option maxHeartbeats 1000000
set_option linter.unusedVariables false
namespace Go.Abs.Tr
open Go Go.Abs Go.Proofs
def s63_l24 (N : Nat) (a0 : Table) (a1 : Train) (s6 : Bool × Int × Int) : Option ((Bool × Int × Int) ⊕ (Bool)) :=
  if (s6.1 && (decide (s6.2.2 < (a1.stops.length : Int)))) then
    (ix a1.stops s6.2.2).bind fun v12 =>
    (s86 N a0 v12.station).bind fun v13 =>
    (if v13 then 
      (s47 N v12.arrive s6.2.1 2879).bind fun v16 =>
      some v16
     else some false).bind fun v17 =>
    (if v17 then 
      (s47 N v12.leave v12.arrive 2879).bind fun v20 =>
      some v20
     else some false).bind fun v21 =>
    (ck (v12.leave + 1)).bind fun v22 =>
    (ck (s6.2.2 + 1)).bind fun v23 =>
    some (.inl (v21, v22, v23))
  else
    some (.inr s6.1)
def s63 (N : Nat) (a0 : Table) (a1 : Train) : Option (Bool) :=
  (s47 N (a1.stops.length : Int) 2 5).bind fun v1 =>
  (if v1 then 
    (s62 N a1.late 0 90).bind fun v4 =>
    some v4
   else some false).bind fun v5 =>
  (iter (s63_l24 N a0 a1) N (v5, 0, 0)).bind fun o7 =>
  some o7
def s15_l30 (N : Nat) (a0 : Table) (s8 : Bool × Int) (s15 : Bool × Int × Int) : Option ((Bool × Int × Int) ⊕ (Bool)) :=
  (if s15.1 then 
    (ix a0.offices s8.2).bind fun v20 =>
    some (decide (s15.2.2 < (v20.length : Int)))
   else some false).bind fun v21 =>
  if v21 then
    (ix a0.offices s8.2).bind fun v23 =>
    (ix v23 s15.2.2).bind fun v24 =>
    (s62 N v24 s15.2.1 2879).bind fun v25 =>
    (ix a0.offices s8.2).bind fun v26 =>
    (ix v26 s15.2.2).bind fun v27 =>
    (ck (v27.high + 1)).bind fun v28 =>
    (ck (s15.2.2 + 1)).bind fun v29 =>
    some (.inl (v25, v28, v29))
  else
    some (.inr s15.1)
def s15_l32 (N : Nat) (a0 : Table) (s8 : Bool × Int) : Option ((Bool × Int) ⊕ (Bool)) :=
  if (s8.1 && (decide (s8.2 < (a0.offices.length : Int)))) then
    (ix a0.offices s8.2).bind fun v14 =>
    (iter (s15_l30 N a0 s8) N ((decide ((v14.length : Int) ≤ 3)), 0, 0)).bind fun o16 =>
    (ck (s8.2 + 1)).bind fun v31 =>
    some (.inl (o16, v31))
  else
    some (.inr s8.1)
def s15_l42 (N : Nat) (a0 : Table) (s33 : Bool × Int) : Option ((Bool × Int) ⊕ (Bool)) :=
  if (s33.1 && (decide (s33.2 < (a0.trains.length : Int)))) then
    (ix a0.trains s33.2).bind fun v39 =>
    (s63 N a0 v39).bind fun v40 =>
    (ck (s33.2 + 1)).bind fun v41 =>
    some (.inl (v40, v41))
  else
    some (.inr s33.1)
def s15 (N : Nat) (a0 : Table) : Option (Int) :=
  (s47 N (a0.offices.length : Int) 1 6).bind fun v1 =>
  (if (v1 && (decide ((a0.trains.length : Int) ≤ 6))) then 
    (s47 N a0.load 0 60).bind fun v6 =>
    some v6
   else some false).bind fun v7 =>
  (iter (s15_l32 N a0) N (v7, 0)).bind fun o9 =>
  (iter (s15_l42 N a0) N (o9, 0)).bind fun o34 =>
  if (!o34) then
    some 30
  else
    some 0
def s57 (N : Nat) (a0 : Table) (a1 : Bool) : Option (Int) :=
  (s15 N a0).bind fun v1 =>
  if (!(v1 == 0)) then
    some v1
  else
    if (!a1) then
      some 31
    else
      some 0
def s58 (N : Nat) (a0 : Table) (a1 : Int) (a2 : Int) : Option (Bool) :=
  (s86 N a0 a1).bind fun v1 =>
  (if v1 then 
    (s86 N a0 a2).bind fun v4 =>
    some v4
   else some false).bind fun v5 =>
  some (v5 && (!(a1 == a2)))
def s72 (N : Nat) (a0 : Table) (a1 : Leg) : Option (Stop) :=
  (ix a0.trains a1.train).bind fun v1 =>
  (ix v1.stops a1.frm).bind fun v2 =>
  some v2
def s73 (N : Nat) (a0 : Table) (a1 : Leg) : Option (Span) :=
  (ix a0.trains a1.train).bind fun v1 =>
  some v1.late
def s74 (N : Nat) (a0 : Table) (a1 : Leg) : Option (Stop) :=
  (ix a0.trains a1.train).bind fun v1 =>
  (ix v1.stops a1.to).bind fun v2 =>
  some v2
def s59_l29 (N : Nat) (a1 : (List Leg)) (s3 : Int) (v7 : Leg) (s22 : Int) : Option ((Int) ⊕ (Unit ⊕ (Int × Int × Bool))) :=
  if (decide (s22 < s3)) then
    (ix a1 s22).bind fun v26 =>
    if (v26.train == v7.train) then
      some (.inr (.inr (0, 0, false)))
    else
      (ck (s22 + 1)).bind fun v28 =>
      some (.inl v28)
  else
    some (.inr (.inl ()))
def s59_l41 (N : Nat) (a0 : Table) (a1 : (List Leg)) (s3 : Int) : Option ((Int) ⊕ (Unit ⊕ (Int × Int × Bool))) :=
  if (decide (s3 < (a1.length : Int))) then
    (ix a1 s3).bind fun v7 =>
    (ck ((a0.trains.length : Int) - 1)).bind fun v8 =>
    (s47 N v7.train 0 v8).bind fun v9 =>
    (if (!v9) then some true else 
      (ix a0.trains v7.train).bind fun v12 =>
      (ck ((v12.stops.length : Int) - 1)).bind fun v13 =>
      (s47 N v7.to 1 v13).bind fun v14 =>
      some (!v14)).bind fun v15 =>
    (if v15 then some true else 
      (ck (v7.to - 1)).bind fun v18 =>
      (s47 N v7.frm 0 v18).bind fun v19 =>
      some (!v19)).bind fun v20 =>
    if v20 then
      some (.inr (.inr (0, 0, false)))
    else
      (iter (s59_l29 N a1 s3 v7) N 0).bind fun o23 => match o23 with
      | .inl s30 =>
        (if (decide (s3 > 0)) then 
          (ck (s3 - 1)).bind fun v33 =>
          (ix a1 v33).bind fun v34 =>
          (s74 N a0 v34).bind fun v35 =>
          (s72 N a0 v7).bind fun v36 =>
          some (!(v35.station == v36.station))
         else some false).bind fun v37 =>
        if v37 then
          some (.inr (.inr (0, 0, false)))
        else
          (ck (s3 + 1)).bind fun v39 =>
          some (.inl v39)
      | .inr s40 =>
        some (.inr (.inr s40))
  else
    some (.inr (.inl ()))
def s59 (N : Nat) (a0 : Table) (a1 : (List Leg)) : Option (Int × Int × Bool) :=
  (s47 N (a1.length : Int) 1 4).bind fun v1 =>
  if (!v1) then
    some (0, 0, false)
  else
    (iter (s59_l41 N a0 a1) N 0).bind fun o4 => match o4 with
    | .inl s42 =>
      (ix a1 0).bind fun v43 =>
      (s72 N a0 v43).bind fun v44 =>
      (ck ((a1.length : Int) - 1)).bind fun v45 =>
      (ix a1 v45).bind fun v46 =>
      (s74 N a0 v46).bind fun v47 =>
      some (v44.station, v47.station, (!(v44.station == v47.station)))
    | .inr s48 =>
      some s48
def s66 (N : Nat) (a0 : Table) (a1 : (List Leg)) : Option (Bool) :=
  (s59 N a0 a1).bind fun v1 =>
  some v1.2.2
def s13 (N : Nat) (a0 : Table) (a1 : (List Leg)) (a2 : Int) (a3 : Int) : Option (Bool × Int) :=
  (s58 N a0 a2 a3).bind fun v1 =>
  (s57 N a0 v1).bind fun v2 =>
  if (!(v2 == 0)) then
    some (false, v2)
  else
    (s59 N a0 a1).bind fun v4 =>
    some (((v4.2.2 && (v4.1 == a2)) && (v4.2.1 == a3)), 0)
def s71_l10 (N : Nat) (a2 : Int) (v1 : (List Span)) (s2 : Int) : Option ((Int) ⊕ (Unit ⊕ Int)) :=
  if (decide (s2 < (v1.length : Int))) then
    (ix v1 s2).bind fun v6 =>
    if (decide (a2 ≤ v6.high)) then
      (ix v1 s2).bind fun v8 =>
      some (.inr (.inr (mx a2 v8.low)))
    else
      (ck (s2 + 1)).bind fun v9 =>
      some (.inl v9)
  else
    some (.inr (.inl ()))
def s71 (N : Nat) (a0 : Table) (a1 : Int) (a2 : Int) : Option (Int) :=
  (ix a0.offices a1).bind fun v1 =>
  (iter (s71_l10 N a2 v1) N 0).bind fun o3 => match o3 with
  | .inl s11 =>
    some 2880
  | .inr s12 =>
    some s12
def s68_l35 (N : Nat) (a0 : Table) (a1 : (List Leg)) (s7 : Bool × Bool × Int × Span × Span × Span) : Option ((Bool × Bool × Int × Span × Span × Span) ⊕ ((Bool × Bool × Span × Span))) :=
  if (decide (s7.2.2.1 < (a1.length : Int))) then
    (ix a1 s7.2.2.1).bind fun v11 =>
    (if s7.1 then 
      (s72 N a0 v11).bind fun v14 =>
      (s73 N a0 v11).bind fun v15 =>
      (ck (v14.leave + v15.low)).bind fun v16 =>
      some (decide (s7.2.2.2.2.1.high ≤ v16))
     else some false).bind fun v17 =>
    (s73 N a0 v11).bind fun v18 =>
    (s72 N a0 v11).bind fun v19 =>
    (ck (s7.2.2.2.2.1.low - v19.leave)).bind fun v20 =>
    (if s7.2.1 then 
      (s73 N a0 v11).bind fun v23 =>
      some (decide ((mx v18.low v20) ≤ v23.high))
     else some false).bind fun v24 =>
    (s74 N a0 v11).bind fun v25 =>
    (ck (v25.arrive + (mx v18.low v20))).bind fun v26 =>
    (s74 N a0 v11).bind fun v27 =>
    (s73 N a0 v11).bind fun v28 =>
    (ck (v27.arrive + v28.high)).bind fun v29 =>
    (s46 N v26 v29).bind fun v30 =>
    (ck (v30.low + a0.load)).bind fun v31 =>
    (ck (v30.high + a0.load)).bind fun v32 =>
    (s46 N v31 v32).bind fun v33 =>
    (ck (s7.2.2.1 + 1)).bind fun v34 =>
    some (.inl (v17, v24, v34, s7.2.2.2.1, v33, v30))
  else
    some (.inr (s7.1, s7.2.1, s7.2.2.2.1, s7.2.2.2.2.2))
def s68 (N : Nat) (a0 : Table) (a1 : (List Leg)) (a2 : Int) : Option (Span × Bool × Bool) :=
  (s59 N a0 a1).bind fun v1 =>
  (ck (a2 + a0.load)).bind fun v2 =>
  (ck (a2 + a0.load)).bind fun v3 =>
  (s46 N v2 v3).bind fun v4 =>
  (s71 N a0 v1.1 a2).bind fun v5 =>
  (s71 N a0 v1.1 a2).bind fun v6 =>
  (iter (s68_l35 N a0 a1) N ((v5 == a2), (v6 == a2), 0, (Span.mk 0 0), v4, (Span.mk 0 0))).bind fun o8 =>
  some (o8.2.2.2, o8.1, o8.2.1)
def s17 (N : Nat) (a0 : Table) (a1 : (List Leg)) (a2 : Int) : Option (Int × Int) :=
  (s15 N a0).bind fun v1 =>
  if (!(v1 == 0)) then
    some (0, v1)
  else
    (s66 N a0 a1).bind fun v3 =>
    (if (!v3) then some true else 
      (s67 N a2).bind fun v6 =>
      some (!v6)).bind fun v7 =>
    if v7 then
      some (0, 31)
    else
      (s68 N a0 a1 a2).bind fun v9 =>
      if v9.2.1 then
        some (2, 0)
      else
        if v9.2.2 then
          some (1, 0)
        else
          some (0, 0)
def s19_l33 (N : Nat) (a0 : Table) (a1 : (List Leg)) (s13 : (List Int) × Int × Int) : Option (((List Int) × Int × Int) ⊕ ((List Int))) :=
  if (decide (s13.2.2 < (a1.length : Int))) then
    (ix a1 s13.2.2).bind fun v17 =>
    (s72 N a0 v17).bind fun v18 =>
    (ix a1 s13.2.2).bind fun v19 =>
    (s73 N a0 v19).bind fun v20 =>
    (ck (v18.leave + v20.low)).bind fun v21 =>
    (if (decide (s13.2.1 > v21)) then
      (ap 8 s13.1 ([s13.2.2])).bind fun v25 =>
      some v25
    else
      some s13.1).bind fun o22 =>
    (ix a1 s13.2.2).bind fun v26 =>
    (s74 N a0 v26).bind fun v27 =>
    (ix a1 s13.2.2).bind fun v28 =>
    (s73 N a0 v28).bind fun v29 =>
    (ck (v27.arrive + v29.high)).bind fun v30 =>
    (ck (v30 + a0.load)).bind fun v31 =>
    (ck (s13.2.2 + 1)).bind fun v32 =>
    some (.inl (o22, v31, v32))
  else
    some (.inr s13.1)
def s19 (N : Nat) (a0 : Table) (a1 : (List Leg)) (a2 : Int) : Option ((List Int) × Int) :=
  (s15 N a0).bind fun v1 =>
  if (!(v1 == 0)) then
    some ([], v1)
  else
    (s66 N a0 a1).bind fun v3 =>
    (if (!v3) then some true else 
      (s67 N a2).bind fun v6 =>
      some (!v6)).bind fun v7 =>
    if v7 then
      some ([], 31)
    else
      (s59 N a0 a1).bind fun v9 =>
      (s71 N a0 v9.1 a2).bind fun v10 =>
      if (!(v10 == a2)) then
        some ([], 4)
      else
        (ck (a2 + a0.load)).bind fun v12 =>
        (iter (s19_l33 N a0 a1) N ([], v12, 0)).bind fun o14 =>
        some (o14, 0)
def s76 (N : Nat) (a0 : Table) (a1 : (List Leg)) (a2 : Int) : Option (Span) :=
  (s68 N a0 a1 a2).bind fun v1 =>
  (s59 N a0 a1).bind fun v2 =>
  (ck (v1.1.low + a0.load)).bind fun v3 =>
  (s71 N a0 v2.2.1 v3).bind fun v4 =>
  (ck (v1.1.high + a0.load)).bind fun v5 =>
  (s71 N a0 v2.2.1 v5).bind fun v6 =>
  (s46 N v4 v6).bind fun v7 =>
  some v7
def s22 (N : Nat) (a0 : Table) (a1 : (List Leg)) (a2 : Int) : Option (Span × Int) :=
  (s17 N a0 a1 a2).bind fun v1 =>
  if (!(v1.2 == 0)) then
    some ((Span.mk 0 0), v1.2)
  else
    if (v1.1 == 0) then
      some ((Span.mk 0 0), 4)
    else
      (s76 N a0 a1 a2).bind fun v4 =>
      some (v4, 0)
end Go.Abs.Tr

/- What these functions give, and that the law FnExactStepMachine gives true. -/
import Derived.Test.YtdhmlhlpdejefaaGreatCFnExactStepMachine
namespace Go.Proofs.YtdhmlhlpdejefaaGreat.AI
open Go.Proofs
set_option linter.all false
set_option maxRecDepth 100000
structure DNode where
  Kind : Int
  Num : Int
  Name : ByteArray
  More : ByteArray
  To : ByteArray
  Kids : List (Int)
abbrev cNode (x : DNode) : List AV := [.int .i64 x.Kind, .int .i64 x.Num, .str x.Name, .str x.More, .str x.To, .tree 1 (x.Kids.map cI)]
def wtNode (x : DNode) : Nat := x.Name.size + x.More.size + x.To.size + x.Kids.length
def gdNode (x : DNode) : Prop := i64 x.Kind ∧ i64 x.Num ∧ gdS x.Name ∧ gdS x.More ∧ gdS x.To ∧ (x.Kids.length ≤ 140737488351232 ∧ ∀ y ∈ x.Kids, i64 y)
def mkNode (x : DNode) (k : Int) : DNode := { Kind := k, Num := (k + 1), Name := (mT ((k + 1) + 1)), More := (mT (((k + 1) + 1) + 1)), To := (mT ((((k + 1) + 1) + 1) + 1)), Kids := mkL mkI ct1 x.Kids (((((k + 1) + 1) + 1) + 1) + 1) }
def ctNode (x : DNode) : Nat := 1 + 1 + 1 + 1 + 1 + tot ct1 x.Kids
theorem ctle_Node (x : DNode) : ctNode x ≤ 5 * (1 + wtNode x) := by
  have h0 := tot_ct1 x.Kids
  unfold ctNode
  simp only [wtNode] at *
  omega
theorem tctle_Node (xs : List DNode) : tot ctNode xs ≤ 5 * (xs.length + tot wtNode xs) := tot_ct_le ctle_Node xs
def mwNode (x : DNode) (k : Int) : DNode := { Kind := x.Kind, Num := x.Num, Name := x.Name, More := x.More, To := x.To, Kids := mkL mkI ct1 x.Kids k }
def cwNode (x : DNode) : Nat := tot ct1 x.Kids
theorem set_cNode {xs : List DNode} {n : Nat} {x : DNode} : (xs.map cNode).set n [.int .i64 x.Kind, .int .i64 x.Num, .str x.Name, .str x.More, .str x.To, .tree 1 (x.Kids.map cI)] = (xs.set n x).map cNode := by rw [List.map_set]
theorem snoc_cNode {xs : List DNode} {x : DNode} : xs.map cNode ++ [[.int .i64 x.Kind, .int .i64 x.Num, .str x.Name, .str x.More, .str x.To, .tree 1 (x.Kids.map cI)]] = (xs ++ [x]).map cNode := by simp
theorem solid_cNode {xs : List DNode} : solid (xs.map cNode) = true := solid_map fun _ => rfl
structure DEntry where
  Name : ByteArray
  Param : ByteArray
  Body : Int
abbrev cEntry (x : DEntry) : List AV := [.str x.Name, .str x.Param, .int .i64 x.Body]
def wtEntry (x : DEntry) : Nat := x.Name.size + x.Param.size
def gdEntry (x : DEntry) : Prop := gdS x.Name ∧ gdS x.Param ∧ i64 x.Body
def mkEntry (x : DEntry) (k : Int) : DEntry := { Name := (mT k), Param := (mT (k + 1)), Body := ((k + 1) + 1) }
def ctEntry (x : DEntry) : Nat := 1 + 1 + 1
theorem ctle_Entry (x : DEntry) : ctEntry x ≤ 3 * (1 + wtEntry x) := by
  unfold ctEntry
  simp only [wtEntry] at *
  omega
theorem tctle_Entry (xs : List DEntry) : tot ctEntry xs ≤ 3 * (xs.length + tot wtEntry xs) := tot_ct_le ctle_Entry xs
theorem flat_cEntry {xs : List DEntry} : flat (xs.map cEntry) = true := flat_map fun _ => rfl
theorem set_cEntry {xs : List DEntry} {n : Nat} {x : DEntry} : (xs.map cEntry).set n [.str x.Name, .str x.Param, .int .i64 x.Body] = (xs.set n x).map cEntry := by rw [List.map_set]
theorem snoc_cEntry {xs : List DEntry} {x : DEntry} : xs.map cEntry ++ [[.str x.Name, .str x.Param, .int .i64 x.Body]] = (xs ++ [x]).map cEntry := by simp
theorem solid_cEntry {xs : List DEntry} : solid (xs.map cEntry) = true := solid_map fun _ => rfl
structure DMonitor where
  Name : ByteArray
  Vars : List (ByteArray)
  Queues : List (ByteArray)
  Entries : List (DEntry)
abbrev cMonitor (x : DMonitor) : List AV := [.str x.Name, .tree 1 (x.Vars.map cS), .tree 1 (x.Queues.map cS), .tree 3 (x.Entries.map cEntry)]
def wtMonitor (x : DMonitor) : Nat := x.Name.size + (x.Vars.length + tot wtS x.Vars) + (x.Queues.length + tot wtS x.Queues) + (x.Entries.length + tot wtEntry x.Entries)
def gdMonitor (x : DMonitor) : Prop := gdS x.Name ∧ (x.Vars.length ≤ 140737488351232 ∧ ∀ y ∈ x.Vars, gdS y) ∧ (x.Queues.length ≤ 140737488351232 ∧ ∀ y ∈ x.Queues, gdS y) ∧ (x.Entries.length ≤ 140737488351232 ∧ ∀ y ∈ x.Entries, gdEntry y)
def mkMonitor (x : DMonitor) (k : Int) : DMonitor := { Name := (mT k), Vars := mkL mkS ct1 x.Vars (k + 1), Queues := mkL mkS ct1 x.Queues ((k + 1) + (tot ct1 x.Vars : Nat)), Entries := mkL mkEntry ctEntry x.Entries (((k + 1) + (tot ct1 x.Vars : Nat)) + (tot ct1 x.Queues : Nat)) }
def ctMonitor (x : DMonitor) : Nat := 1 + tot ct1 x.Vars + tot ct1 x.Queues + tot ctEntry x.Entries
theorem ctle_Monitor (x : DMonitor) : ctMonitor x ≤ 3 * (1 + wtMonitor x) := by
  have h0 := tot_ct1 x.Vars
  have h1 := tot_ct1 x.Queues
  have h2 := tctle_Entry x.Entries
  unfold ctMonitor
  simp only [wtMonitor] at *
  omega
theorem tctle_Monitor (xs : List DMonitor) : tot ctMonitor xs ≤ 3 * (xs.length + tot wtMonitor xs) := tot_ct_le ctle_Monitor xs
def mwMonitor (x : DMonitor) (k : Int) : DMonitor := { Name := x.Name, Vars := mkL mkS ct1 x.Vars k, Queues := mkL mkS ct1 x.Queues (k + (tot ct1 x.Vars : Nat)), Entries := mkL mkEntry ctEntry x.Entries ((k + (tot ct1 x.Vars : Nat)) + (tot ct1 x.Queues : Nat)) }
def cwMonitor (x : DMonitor) : Nat := tot ct1 x.Vars + tot ct1 x.Queues + tot ctEntry x.Entries
theorem set_cMonitor {xs : List DMonitor} {n : Nat} {x : DMonitor} : (xs.map cMonitor).set n [.str x.Name, .tree 1 (x.Vars.map cS), .tree 1 (x.Queues.map cS), .tree 3 (x.Entries.map cEntry)] = (xs.set n x).map cMonitor := by rw [List.map_set]
theorem snoc_cMonitor {xs : List DMonitor} {x : DMonitor} : xs.map cMonitor ++ [[.str x.Name, .tree 1 (x.Vars.map cS), .tree 1 (x.Queues.map cS), .tree 3 (x.Entries.map cEntry)]] = (xs ++ [x]).map cMonitor := by simp
theorem solid_cMonitor {xs : List DMonitor} : solid (xs.map cMonitor) = true := solid_map fun _ => rfl
structure DProcess where
  Name : ByteArray
  Uses : List (ByteArray)
  Vars : List (ByteArray)
  Body : Int
abbrev cProcess (x : DProcess) : List AV := [.str x.Name, .tree 1 (x.Uses.map cS), .tree 1 (x.Vars.map cS), .int .i64 x.Body]
def wtProcess (x : DProcess) : Nat := x.Name.size + (x.Uses.length + tot wtS x.Uses) + (x.Vars.length + tot wtS x.Vars)
def gdProcess (x : DProcess) : Prop := gdS x.Name ∧ (x.Uses.length ≤ 140737488351232 ∧ ∀ y ∈ x.Uses, gdS y) ∧ (x.Vars.length ≤ 140737488351232 ∧ ∀ y ∈ x.Vars, gdS y) ∧ i64 x.Body
def mkProcess (x : DProcess) (k : Int) : DProcess := { Name := (mT k), Uses := mkL mkS ct1 x.Uses (k + 1), Vars := mkL mkS ct1 x.Vars ((k + 1) + (tot ct1 x.Uses : Nat)), Body := (((k + 1) + (tot ct1 x.Uses : Nat)) + (tot ct1 x.Vars : Nat)) }
def ctProcess (x : DProcess) : Nat := 1 + tot ct1 x.Uses + tot ct1 x.Vars + 1
theorem ctle_Process (x : DProcess) : ctProcess x ≤ 2 * (1 + wtProcess x) := by
  have h0 := tot_ct1 x.Uses
  have h1 := tot_ct1 x.Vars
  unfold ctProcess
  simp only [wtProcess] at *
  omega
theorem tctle_Process (xs : List DProcess) : tot ctProcess xs ≤ 2 * (xs.length + tot wtProcess xs) := tot_ct_le ctle_Process xs
def mwProcess (x : DProcess) (k : Int) : DProcess := { Name := x.Name, Uses := mkL mkS ct1 x.Uses k, Vars := mkL mkS ct1 x.Vars (k + (tot ct1 x.Uses : Nat)), Body := x.Body }
def cwProcess (x : DProcess) : Nat := tot ct1 x.Uses + tot ct1 x.Vars
theorem set_cProcess {xs : List DProcess} {n : Nat} {x : DProcess} : (xs.map cProcess).set n [.str x.Name, .tree 1 (x.Uses.map cS), .tree 1 (x.Vars.map cS), .int .i64 x.Body] = (xs.set n x).map cProcess := by rw [List.map_set]
theorem snoc_cProcess {xs : List DProcess} {x : DProcess} : xs.map cProcess ++ [[.str x.Name, .tree 1 (x.Uses.map cS), .tree 1 (x.Vars.map cS), .int .i64 x.Body]] = (xs ++ [x]).map cProcess := by simp
theorem solid_cProcess {xs : List DProcess} : solid (xs.map cProcess) = true := solid_map fun _ => rfl
structure DProgram where
  Nodes : List (DNode)
  Monitors : List (DMonitor)
  Processes : List (DProcess)
abbrev cProgram (x : DProgram) : List AV := [.tree 6 (x.Nodes.map cNode), .tree 4 (x.Monitors.map cMonitor), .tree 4 (x.Processes.map cProcess)]
def wtProgram (x : DProgram) : Nat := (x.Nodes.length + tot wtNode x.Nodes) + (x.Monitors.length + tot wtMonitor x.Monitors) + (x.Processes.length + tot wtProcess x.Processes)
def gdProgram (x : DProgram) : Prop := (x.Nodes.length ≤ 140737488351232 ∧ ∀ y ∈ x.Nodes, gdNode y) ∧ (x.Monitors.length ≤ 140737488351232 ∧ ∀ y ∈ x.Monitors, gdMonitor y) ∧ (x.Processes.length ≤ 140737488351232 ∧ ∀ y ∈ x.Processes, gdProcess y)
def mkProgram (x : DProgram) (k : Int) : DProgram := { Nodes := mkL mkNode ctNode x.Nodes k, Monitors := mkL mkMonitor ctMonitor x.Monitors (k + (tot ctNode x.Nodes : Nat)), Processes := mkL mkProcess ctProcess x.Processes ((k + (tot ctNode x.Nodes : Nat)) + (tot ctMonitor x.Monitors : Nat)) }
def ctProgram (x : DProgram) : Nat := tot ctNode x.Nodes + tot ctMonitor x.Monitors + tot ctProcess x.Processes
theorem ctle_Program (x : DProgram) : ctProgram x ≤ 5 * (1 + wtProgram x) := by
  have h0 := tctle_Node x.Nodes
  have h1 := tctle_Monitor x.Monitors
  have h2 := tctle_Process x.Processes
  unfold ctProgram
  simp only [wtProgram] at *
  omega
theorem tctle_Program (xs : List DProgram) : tot ctProgram xs ≤ 5 * (xs.length + tot wtProgram xs) := tot_ct_le ctle_Program xs
def mwProgram (x : DProgram) (k : Int) : DProgram := { Nodes := mkL mkNode ctNode x.Nodes k, Monitors := mkL mkMonitor ctMonitor x.Monitors (k + (tot ctNode x.Nodes : Nat)), Processes := mkL mkProcess ctProcess x.Processes ((k + (tot ctNode x.Nodes : Nat)) + (tot ctMonitor x.Monitors : Nat)) }
def cwProgram (x : DProgram) : Nat := tot ctNode x.Nodes + tot ctMonitor x.Monitors + tot ctProcess x.Processes
theorem set_cProgram {xs : List DProgram} {n : Nat} {x : DProgram} : (xs.map cProgram).set n [.tree 6 (x.Nodes.map cNode), .tree 4 (x.Monitors.map cMonitor), .tree 4 (x.Processes.map cProcess)] = (xs.set n x).map cProgram := by rw [List.map_set]
theorem snoc_cProgram {xs : List DProgram} {x : DProgram} : xs.map cProgram ++ [[.tree 6 (x.Nodes.map cNode), .tree 4 (x.Monitors.map cMonitor), .tree 4 (x.Processes.map cProcess)]] = (xs ++ [x]).map cProgram := by simp
theorem solid_cProgram {xs : List DProgram} : solid (xs.map cProgram) = true := solid_map fun _ => rfl
structure DGate where
  Owner : Int
  Waits : List (Int)
  Queues : List (Int)
abbrev cGate (x : DGate) : List AV := [.int .i64 x.Owner, .tree 1 (x.Waits.map cI), .tree 1 (x.Queues.map cI)]
def wtGate (x : DGate) : Nat := x.Waits.length + x.Queues.length
def gdGate (x : DGate) : Prop := i64 x.Owner ∧ (x.Waits.length ≤ 140737488351232 ∧ ∀ y ∈ x.Waits, i64 y) ∧ (x.Queues.length ≤ 140737488351232 ∧ ∀ y ∈ x.Queues, i64 y)
def mkGate (x : DGate) (k : Int) : DGate := { Owner := k, Waits := mkL mkI ct1 x.Waits (k + 1), Queues := mkL mkI ct1 x.Queues ((k + 1) + (tot ct1 x.Waits : Nat)) }
def ctGate (x : DGate) : Nat := 1 + tot ct1 x.Waits + tot ct1 x.Queues
theorem ctle_Gate (x : DGate) : ctGate x ≤ 1 * (1 + wtGate x) := by
  have h0 := tot_ct1 x.Waits
  have h1 := tot_ct1 x.Queues
  unfold ctGate
  simp only [wtGate] at *
  omega
theorem tctle_Gate (xs : List DGate) : tot ctGate xs ≤ 1 * (xs.length + tot wtGate xs) := tot_ct_le ctle_Gate xs
def mwGate (x : DGate) (k : Int) : DGate := { Owner := x.Owner, Waits := mkL mkI ct1 x.Waits k, Queues := mkL mkI ct1 x.Queues (k + (tot ct1 x.Waits : Nat)) }
def cwGate (x : DGate) : Nat := tot ct1 x.Waits + tot ct1 x.Queues
theorem set_cGate {xs : List DGate} {n : Nat} {x : DGate} : (xs.map cGate).set n [.int .i64 x.Owner, .tree 1 (x.Waits.map cI), .tree 1 (x.Queues.map cI)] = (xs.set n x).map cGate := by rw [List.map_set]
theorem snoc_cGate {xs : List DGate} {x : DGate} : xs.map cGate ++ [[.int .i64 x.Owner, .tree 1 (x.Waits.map cI), .tree 1 (x.Queues.map cI)]] = (xs ++ [x]).map cGate := by simp
theorem solid_cGate {xs : List DGate} : solid (xs.map cGate) = true := solid_map fun _ => rfl
structure DEvent where
  Process : Int
  Kind : Int
  Num : Int
abbrev cEvent (x : DEvent) : List AV := [.int .i64 x.Process, .int .i64 x.Kind, .int .i64 x.Num]
def gdEvent (x : DEvent) : Prop := i64 x.Process ∧ i64 x.Kind ∧ i64 x.Num
def mkEvent (x : DEvent) (k : Int) : DEvent := { Process := k, Kind := (k + 1), Num := ((k + 1) + 1) }
def ctEvent (x : DEvent) : Nat := 1 + 1 + 1
theorem ctle_Event (x : DEvent) : ctEvent x ≤ 3 := by
  unfold ctEvent
  omega
theorem tctle_Event (xs : List DEvent) : tot ctEvent xs ≤ 3 * xs.length := tot_ct_le0 ctle_Event xs
theorem flat_cEvent {xs : List DEvent} : flat (xs.map cEvent) = true := flat_map fun _ => rfl
theorem set_cEvent {xs : List DEvent} {n : Nat} {x : DEvent} : (xs.map cEvent).set n [.int .i64 x.Process, .int .i64 x.Kind, .int .i64 x.Num] = (xs.set n x).map cEvent := by rw [List.map_set]
theorem snoc_cEvent {xs : List DEvent} {x : DEvent} : xs.map cEvent ++ [[.int .i64 x.Process, .int .i64 x.Kind, .int .i64 x.Num]] = (xs ++ [x]).map cEvent := by simp
theorem solid_cEvent {xs : List DEvent} : solid (xs.map cEvent) = true := solid_map fun _ => rfl
structure DIns where
  Op : Int
  A : Int
  B : Int
  C : Int
abbrev cIns (x : DIns) : List AV := [.int .i64 x.Op, .int .i64 x.A, .int .i64 x.B, .int .i64 x.C]
def gdIns (x : DIns) : Prop := i64 x.Op ∧ i64 x.A ∧ i64 x.B ∧ i64 x.C
def mkIns (x : DIns) (k : Int) : DIns := { Op := k, A := (k + 1), B := ((k + 1) + 1), C := (((k + 1) + 1) + 1) }
def ctIns (x : DIns) : Nat := 1 + 1 + 1 + 1
theorem ctle_Ins (x : DIns) : ctIns x ≤ 4 := by
  unfold ctIns
  omega
theorem tctle_Ins (xs : List DIns) : tot ctIns xs ≤ 4 * xs.length := tot_ct_le0 ctle_Ins xs
theorem flat_cIns {xs : List DIns} : flat (xs.map cIns) = true := flat_map fun _ => rfl
theorem set_cIns {xs : List DIns} {n : Nat} {x : DIns} : (xs.map cIns).set n [.int .i64 x.Op, .int .i64 x.A, .int .i64 x.B, .int .i64 x.C] = (xs.set n x).map cIns := by rw [List.map_set]
theorem snoc_cIns {xs : List DIns} {x : DIns} : xs.map cIns ++ [[.int .i64 x.Op, .int .i64 x.A, .int .i64 x.B, .int .i64 x.C]] = (xs ++ [x]).map cIns := by simp
theorem solid_cIns {xs : List DIns} : solid (xs.map cIns) = true := solid_map fun _ => rfl
structure DCore where
  Regs : List (Int)
  Pc : Int
  Process : Int
abbrev cCore (x : DCore) : List AV := [.tree 1 (x.Regs.map cI), .int .i64 x.Pc, .int .i64 x.Process]
def wtCore (x : DCore) : Nat := x.Regs.length
def gdCore (x : DCore) : Prop := (x.Regs.length ≤ 140737488351232 ∧ ∀ y ∈ x.Regs, i64 y) ∧ i64 x.Pc ∧ i64 x.Process
def mkCore (x : DCore) (k : Int) : DCore := { Regs := mkL mkI ct1 x.Regs k, Pc := (k + (tot ct1 x.Regs : Nat)), Process := ((k + (tot ct1 x.Regs : Nat)) + 1) }
def ctCore (x : DCore) : Nat := tot ct1 x.Regs + 1 + 1
theorem ctle_Core (x : DCore) : ctCore x ≤ 2 * (1 + wtCore x) := by
  have h0 := tot_ct1 x.Regs
  unfold ctCore
  simp only [wtCore] at *
  omega
theorem tctle_Core (xs : List DCore) : tot ctCore xs ≤ 2 * (xs.length + tot wtCore xs) := tot_ct_le ctle_Core xs
def mwCore (x : DCore) (k : Int) : DCore := { Regs := mkL mkI ct1 x.Regs k, Pc := x.Pc, Process := x.Process }
def cwCore (x : DCore) : Nat := tot ct1 x.Regs
theorem set_cCore {xs : List DCore} {n : Nat} {x : DCore} : (xs.map cCore).set n [.tree 1 (x.Regs.map cI), .int .i64 x.Pc, .int .i64 x.Process] = (xs.set n x).map cCore := by rw [List.map_set]
theorem snoc_cCore {xs : List DCore} {x : DCore} : xs.map cCore ++ [[.tree 1 (x.Regs.map cI), .int .i64 x.Pc, .int .i64 x.Process]] = (xs ++ [x]).map cCore := by simp
theorem solid_cCore {xs : List DCore} : solid (xs.map cCore) = true := solid_map fun _ => rfl
structure DPlaces where
  Names : List (ByteArray)
  Ats : List (Int)
abbrev cPlaces (x : DPlaces) : List AV := [.tree 1 (x.Names.map cS), .tree 1 (x.Ats.map cI)]
def wtPlaces (x : DPlaces) : Nat := (x.Names.length + tot wtS x.Names) + x.Ats.length
def gdPlaces (x : DPlaces) : Prop := (x.Names.length ≤ 140737488351232 ∧ ∀ y ∈ x.Names, gdS y) ∧ (x.Ats.length ≤ 140737488351232 ∧ ∀ y ∈ x.Ats, i64 y)
def mkPlaces (x : DPlaces) (k : Int) : DPlaces := { Names := mkL mkS ct1 x.Names k, Ats := mkL mkI ct1 x.Ats (k + (tot ct1 x.Names : Nat)) }
def ctPlaces (x : DPlaces) : Nat := tot ct1 x.Names + tot ct1 x.Ats
theorem ctle_Places (x : DPlaces) : ctPlaces x ≤ 1 * (1 + wtPlaces x) := by
  have h0 := tot_ct1 x.Names
  have h1 := tot_ct1 x.Ats
  unfold ctPlaces
  simp only [wtPlaces] at *
  omega
theorem tctle_Places (xs : List DPlaces) : tot ctPlaces xs ≤ 1 * (xs.length + tot wtPlaces xs) := tot_ct_le ctle_Places xs
def mwPlaces (x : DPlaces) (k : Int) : DPlaces := { Names := mkL mkS ct1 x.Names k, Ats := mkL mkI ct1 x.Ats (k + (tot ct1 x.Names : Nat)) }
def cwPlaces (x : DPlaces) : Nat := tot ct1 x.Names + tot ct1 x.Ats
theorem set_cPlaces {xs : List DPlaces} {n : Nat} {x : DPlaces} : (xs.map cPlaces).set n [.tree 1 (x.Names.map cS), .tree 1 (x.Ats.map cI)] = (xs.set n x).map cPlaces := by rw [List.map_set]
theorem snoc_cPlaces {xs : List DPlaces} {x : DPlaces} : xs.map cPlaces ++ [[.tree 1 (x.Names.map cS), .tree 1 (x.Ats.map cI)]] = (xs ++ [x]).map cPlaces := by simp
theorem solid_cPlaces {xs : List DPlaces} : solid (xs.map cPlaces) = true := solid_map fun _ => rfl
structure DImage where
  Text : List (Int)
  Starts : List (Int)
  Size : Int
abbrev cImage (x : DImage) : List AV := [.tree 1 (x.Text.map cI), .tree 1 (x.Starts.map cI), .int .i64 x.Size]
def wtImage (x : DImage) : Nat := x.Text.length + x.Starts.length
def gdImage (x : DImage) : Prop := (x.Text.length ≤ 140737488351232 ∧ ∀ y ∈ x.Text, i64 y) ∧ (x.Starts.length ≤ 140737488351232 ∧ ∀ y ∈ x.Starts, i64 y) ∧ i64 x.Size
def mkImage (x : DImage) (k : Int) : DImage := { Text := mkL mkI ct1 x.Text k, Starts := mkL mkI ct1 x.Starts (k + (tot ct1 x.Text : Nat)), Size := ((k + (tot ct1 x.Text : Nat)) + (tot ct1 x.Starts : Nat)) }
def ctImage (x : DImage) : Nat := tot ct1 x.Text + tot ct1 x.Starts + 1
theorem ctle_Image (x : DImage) : ctImage x ≤ 1 * (1 + wtImage x) := by
  have h0 := tot_ct1 x.Text
  have h1 := tot_ct1 x.Starts
  unfold ctImage
  simp only [wtImage] at *
  omega
theorem tctle_Image (xs : List DImage) : tot ctImage xs ≤ 1 * (xs.length + tot wtImage xs) := tot_ct_le ctle_Image xs
def mwImage (x : DImage) (k : Int) : DImage := { Text := mkL mkI ct1 x.Text k, Starts := mkL mkI ct1 x.Starts (k + (tot ct1 x.Text : Nat)), Size := x.Size }
def cwImage (x : DImage) : Nat := tot ct1 x.Text + tot ct1 x.Starts
theorem set_cImage {xs : List DImage} {n : Nat} {x : DImage} : (xs.map cImage).set n [.tree 1 (x.Text.map cI), .tree 1 (x.Starts.map cI), .int .i64 x.Size] = (xs.set n x).map cImage := by rw [List.map_set]
theorem snoc_cImage {xs : List DImage} {x : DImage} : xs.map cImage ++ [[.tree 1 (x.Text.map cI), .tree 1 (x.Starts.map cI), .int .i64 x.Size]] = (xs ++ [x]).map cImage := by simp
theorem solid_cImage {xs : List DImage} : solid (xs.map cImage) = true := solid_map fun _ => rfl
structure DKernel where
  Gates : List (DGate)
  Ready : List (Int)
  Saved : List (DCore)
  Over : List (Bool)
abbrev cKernel (x : DKernel) : List AV := [.tree 3 (x.Gates.map cGate), .tree 1 (x.Ready.map cI), .tree 3 (x.Saved.map cCore), .tree 1 (x.Over.map cB)]
def wtKernel (x : DKernel) : Nat := (x.Gates.length + tot wtGate x.Gates) + x.Ready.length + (x.Saved.length + tot wtCore x.Saved) + x.Over.length
def gdKernel (x : DKernel) : Prop := (x.Gates.length ≤ 140737488351232 ∧ ∀ y ∈ x.Gates, gdGate y) ∧ (x.Ready.length ≤ 140737488351232 ∧ ∀ y ∈ x.Ready, i64 y) ∧ (x.Saved.length ≤ 140737488351232 ∧ ∀ y ∈ x.Saved, gdCore y) ∧ (x.Over.length ≤ 140737488351232)
def mkKernel (x : DKernel) (k : Int) : DKernel := { Gates := mkL mkGate ctGate x.Gates k, Ready := mkL mkI ct1 x.Ready (k + (tot ctGate x.Gates : Nat)), Saved := mkL mkCore ctCore x.Saved ((k + (tot ctGate x.Gates : Nat)) + (tot ct1 x.Ready : Nat)), Over := mkL mkB ct1 x.Over (((k + (tot ctGate x.Gates : Nat)) + (tot ct1 x.Ready : Nat)) + (tot ctCore x.Saved : Nat)) }
def ctKernel (x : DKernel) : Nat := tot ctGate x.Gates + tot ct1 x.Ready + tot ctCore x.Saved + tot ct1 x.Over
theorem ctle_Kernel (x : DKernel) : ctKernel x ≤ 2 * (1 + wtKernel x) := by
  have h0 := tctle_Gate x.Gates
  have h1 := tot_ct1 x.Ready
  have h2 := tctle_Core x.Saved
  have h3 := tot_ct1 x.Over
  unfold ctKernel
  simp only [wtKernel] at *
  omega
theorem tctle_Kernel (xs : List DKernel) : tot ctKernel xs ≤ 2 * (xs.length + tot wtKernel xs) := tot_ct_le ctle_Kernel xs
def mwKernel (x : DKernel) (k : Int) : DKernel := { Gates := mkL mkGate ctGate x.Gates k, Ready := mkL mkI ct1 x.Ready (k + (tot ctGate x.Gates : Nat)), Saved := mkL mkCore ctCore x.Saved ((k + (tot ctGate x.Gates : Nat)) + (tot ct1 x.Ready : Nat)), Over := mkL mkB ct1 x.Over (((k + (tot ctGate x.Gates : Nat)) + (tot ct1 x.Ready : Nat)) + (tot ctCore x.Saved : Nat)) }
def cwKernel (x : DKernel) : Nat := tot ctGate x.Gates + tot ct1 x.Ready + tot ctCore x.Saved + tot ct1 x.Over
theorem set_cKernel {xs : List DKernel} {n : Nat} {x : DKernel} : (xs.map cKernel).set n [.tree 3 (x.Gates.map cGate), .tree 1 (x.Ready.map cI), .tree 3 (x.Saved.map cCore), .tree 1 (x.Over.map cB)] = (xs.set n x).map cKernel := by rw [List.map_set]
theorem snoc_cKernel {xs : List DKernel} {x : DKernel} : xs.map cKernel ++ [[.tree 3 (x.Gates.map cGate), .tree 1 (x.Ready.map cI), .tree 3 (x.Saved.map cCore), .tree 1 (x.Over.map cB)]] = (xs ++ [x]).map cKernel := by simp
theorem solid_cKernel {xs : List DKernel} : solid (xs.map cKernel) = true := solid_map fun _ => rfl
structure DMachine where
  Image : DImage
  Mem : List (Int)
  Cores : List (DCore)
  Kernel : DKernel
  Input : List (Int)
  Events : List (DEvent)
  Stopped : Bool
abbrev cMachine (x : DMachine) : List AV := [.tree 1 (x.Image.Text.map cI), .tree 1 (x.Image.Starts.map cI), .int .i64 x.Image.Size, .tree 1 (x.Mem.map cI), .tree 3 (x.Cores.map cCore), .tree 3 (x.Kernel.Gates.map cGate), .tree 1 (x.Kernel.Ready.map cI), .tree 3 (x.Kernel.Saved.map cCore), .tree 1 (x.Kernel.Over.map cB), .tree 1 (x.Input.map cI), .tree 3 (x.Events.map cEvent), .bool x.Stopped]
def wtMachine (x : DMachine) : Nat := (wtImage x.Image) + x.Mem.length + (x.Cores.length + tot wtCore x.Cores) + (wtKernel x.Kernel) + x.Input.length + x.Events.length
def gdMachine (x : DMachine) : Prop := gdImage x.Image ∧ (x.Mem.length ≤ 140737488351232 ∧ ∀ y ∈ x.Mem, i64 y) ∧ (x.Cores.length ≤ 140737488351232 ∧ ∀ y ∈ x.Cores, gdCore y) ∧ gdKernel x.Kernel ∧ (x.Input.length ≤ 140737488351232 ∧ ∀ y ∈ x.Input, i64 y) ∧ (x.Events.length ≤ 140737488351232 ∧ ∀ y ∈ x.Events, gdEvent y)
def mkMachine (x : DMachine) (k : Int) : DMachine := { Image := { Text := mkL mkI ct1 x.Image.Text k, Starts := mkL mkI ct1 x.Image.Starts (k + (tot ct1 x.Image.Text : Nat)), Size := ((k + (tot ct1 x.Image.Text : Nat)) + (tot ct1 x.Image.Starts : Nat)) }, Mem := mkL mkI ct1 x.Mem (((k + (tot ct1 x.Image.Text : Nat)) + (tot ct1 x.Image.Starts : Nat)) + 1), Cores := mkL mkCore ctCore x.Cores ((((k + (tot ct1 x.Image.Text : Nat)) + (tot ct1 x.Image.Starts : Nat)) + 1) + (tot ct1 x.Mem : Nat)), Kernel := { Gates := mkL mkGate ctGate x.Kernel.Gates (((((k + (tot ct1 x.Image.Text : Nat)) + (tot ct1 x.Image.Starts : Nat)) + 1) + (tot ct1 x.Mem : Nat)) + (tot ctCore x.Cores : Nat)), Ready := mkL mkI ct1 x.Kernel.Ready ((((((k + (tot ct1 x.Image.Text : Nat)) + (tot ct1 x.Image.Starts : Nat)) + 1) + (tot ct1 x.Mem : Nat)) + (tot ctCore x.Cores : Nat)) + (tot ctGate x.Kernel.Gates : Nat)), Saved := mkL mkCore ctCore x.Kernel.Saved (((((((k + (tot ct1 x.Image.Text : Nat)) + (tot ct1 x.Image.Starts : Nat)) + 1) + (tot ct1 x.Mem : Nat)) + (tot ctCore x.Cores : Nat)) + (tot ctGate x.Kernel.Gates : Nat)) + (tot ct1 x.Kernel.Ready : Nat)), Over := mkL mkB ct1 x.Kernel.Over ((((((((k + (tot ct1 x.Image.Text : Nat)) + (tot ct1 x.Image.Starts : Nat)) + 1) + (tot ct1 x.Mem : Nat)) + (tot ctCore x.Cores : Nat)) + (tot ctGate x.Kernel.Gates : Nat)) + (tot ct1 x.Kernel.Ready : Nat)) + (tot ctCore x.Kernel.Saved : Nat)) }, Input := mkL mkI ct1 x.Input (((((((((k + (tot ct1 x.Image.Text : Nat)) + (tot ct1 x.Image.Starts : Nat)) + 1) + (tot ct1 x.Mem : Nat)) + (tot ctCore x.Cores : Nat)) + (tot ctGate x.Kernel.Gates : Nat)) + (tot ct1 x.Kernel.Ready : Nat)) + (tot ctCore x.Kernel.Saved : Nat)) + (tot ct1 x.Kernel.Over : Nat)), Events := mkL mkEvent ctEvent x.Events ((((((((((k + (tot ct1 x.Image.Text : Nat)) + (tot ct1 x.Image.Starts : Nat)) + 1) + (tot ct1 x.Mem : Nat)) + (tot ctCore x.Cores : Nat)) + (tot ctGate x.Kernel.Gates : Nat)) + (tot ct1 x.Kernel.Ready : Nat)) + (tot ctCore x.Kernel.Saved : Nat)) + (tot ct1 x.Kernel.Over : Nat)) + (tot ct1 x.Input : Nat)), Stopped := (decide (Int.tmod (((((((((((k + (tot ct1 x.Image.Text : Nat)) + (tot ct1 x.Image.Starts : Nat)) + 1) + (tot ct1 x.Mem : Nat)) + (tot ctCore x.Cores : Nat)) + (tot ctGate x.Kernel.Gates : Nat)) + (tot ct1 x.Kernel.Ready : Nat)) + (tot ctCore x.Kernel.Saved : Nat)) + (tot ct1 x.Kernel.Over : Nat)) + (tot ct1 x.Input : Nat)) + (tot ctEvent x.Events : Nat)) 3 = 0)) }
def ctMachine (x : DMachine) : Nat := tot ct1 x.Image.Text + tot ct1 x.Image.Starts + 1 + tot ct1 x.Mem + tot ctCore x.Cores + tot ctGate x.Kernel.Gates + tot ct1 x.Kernel.Ready + tot ctCore x.Kernel.Saved + tot ct1 x.Kernel.Over + tot ct1 x.Input + tot ctEvent x.Events + 1
theorem ctle_Machine (x : DMachine) : ctMachine x ≤ 3 * (1 + wtMachine x) := by
  have h0 := tot_ct1 x.Image.Text
  have h1 := tot_ct1 x.Image.Starts
  have h2 := tot_ct1 x.Mem
  have h3 := tctle_Core x.Cores
  have h4 := tctle_Gate x.Kernel.Gates
  have h5 := tot_ct1 x.Kernel.Ready
  have h6 := tctle_Core x.Kernel.Saved
  have h7 := tot_ct1 x.Kernel.Over
  have h8 := tot_ct1 x.Input
  have h9 := tctle_Event x.Events
  unfold ctMachine
  simp only [wtMachine, wtImage, wtKernel] at *
  omega
theorem tctle_Machine (xs : List DMachine) : tot ctMachine xs ≤ 3 * (xs.length + tot wtMachine xs) := tot_ct_le ctle_Machine xs
def mwMachine (x : DMachine) (k : Int) : DMachine := { Image := { Text := mkL mkI ct1 x.Image.Text k, Starts := mkL mkI ct1 x.Image.Starts (k + (tot ct1 x.Image.Text : Nat)), Size := x.Image.Size }, Mem := mkL mkI ct1 x.Mem ((k + (tot ct1 x.Image.Text : Nat)) + (tot ct1 x.Image.Starts : Nat)), Cores := mkL mkCore ctCore x.Cores (((k + (tot ct1 x.Image.Text : Nat)) + (tot ct1 x.Image.Starts : Nat)) + (tot ct1 x.Mem : Nat)), Kernel := { Gates := mkL mkGate ctGate x.Kernel.Gates ((((k + (tot ct1 x.Image.Text : Nat)) + (tot ct1 x.Image.Starts : Nat)) + (tot ct1 x.Mem : Nat)) + (tot ctCore x.Cores : Nat)), Ready := mkL mkI ct1 x.Kernel.Ready (((((k + (tot ct1 x.Image.Text : Nat)) + (tot ct1 x.Image.Starts : Nat)) + (tot ct1 x.Mem : Nat)) + (tot ctCore x.Cores : Nat)) + (tot ctGate x.Kernel.Gates : Nat)), Saved := mkL mkCore ctCore x.Kernel.Saved ((((((k + (tot ct1 x.Image.Text : Nat)) + (tot ct1 x.Image.Starts : Nat)) + (tot ct1 x.Mem : Nat)) + (tot ctCore x.Cores : Nat)) + (tot ctGate x.Kernel.Gates : Nat)) + (tot ct1 x.Kernel.Ready : Nat)), Over := mkL mkB ct1 x.Kernel.Over (((((((k + (tot ct1 x.Image.Text : Nat)) + (tot ct1 x.Image.Starts : Nat)) + (tot ct1 x.Mem : Nat)) + (tot ctCore x.Cores : Nat)) + (tot ctGate x.Kernel.Gates : Nat)) + (tot ct1 x.Kernel.Ready : Nat)) + (tot ctCore x.Kernel.Saved : Nat)) }, Input := mkL mkI ct1 x.Input ((((((((k + (tot ct1 x.Image.Text : Nat)) + (tot ct1 x.Image.Starts : Nat)) + (tot ct1 x.Mem : Nat)) + (tot ctCore x.Cores : Nat)) + (tot ctGate x.Kernel.Gates : Nat)) + (tot ct1 x.Kernel.Ready : Nat)) + (tot ctCore x.Kernel.Saved : Nat)) + (tot ct1 x.Kernel.Over : Nat)), Events := mkL mkEvent ctEvent x.Events (((((((((k + (tot ct1 x.Image.Text : Nat)) + (tot ct1 x.Image.Starts : Nat)) + (tot ct1 x.Mem : Nat)) + (tot ctCore x.Cores : Nat)) + (tot ctGate x.Kernel.Gates : Nat)) + (tot ct1 x.Kernel.Ready : Nat)) + (tot ctCore x.Kernel.Saved : Nat)) + (tot ct1 x.Kernel.Over : Nat)) + (tot ct1 x.Input : Nat)), Stopped := x.Stopped }
def cwMachine (x : DMachine) : Nat := tot ct1 x.Image.Text + tot ct1 x.Image.Starts + tot ct1 x.Mem + tot ctCore x.Cores + tot ctGate x.Kernel.Gates + tot ct1 x.Kernel.Ready + tot ctCore x.Kernel.Saved + tot ct1 x.Kernel.Over + tot ct1 x.Input + tot ctEvent x.Events
theorem set_cMachine {xs : List DMachine} {n : Nat} {x : DMachine} : (xs.map cMachine).set n [.tree 1 (x.Image.Text.map cI), .tree 1 (x.Image.Starts.map cI), .int .i64 x.Image.Size, .tree 1 (x.Mem.map cI), .tree 3 (x.Cores.map cCore), .tree 3 (x.Kernel.Gates.map cGate), .tree 1 (x.Kernel.Ready.map cI), .tree 3 (x.Kernel.Saved.map cCore), .tree 1 (x.Kernel.Over.map cB), .tree 1 (x.Input.map cI), .tree 3 (x.Events.map cEvent), .bool x.Stopped] = (xs.set n x).map cMachine := by rw [List.map_set]
theorem snoc_cMachine {xs : List DMachine} {x : DMachine} : xs.map cMachine ++ [[.tree 1 (x.Image.Text.map cI), .tree 1 (x.Image.Starts.map cI), .int .i64 x.Image.Size, .tree 1 (x.Mem.map cI), .tree 3 (x.Cores.map cCore), .tree 3 (x.Kernel.Gates.map cGate), .tree 1 (x.Kernel.Ready.map cI), .tree 3 (x.Kernel.Saved.map cCore), .tree 1 (x.Kernel.Over.map cB), .tree 1 (x.Input.map cI), .tree 3 (x.Events.map cEvent), .bool x.Stopped]] = (xs ++ [x]).map cMachine := by simp
theorem solid_cMachine {xs : List DMachine} : solid (xs.map cMachine) = true := solid_map fun _ => rfl
def FT := (And.intro (And.intro (And.intro (And.intro (And.intro @solid_cNode @solid_cEntry) (And.intro @solid_cMonitor (And.intro @solid_cProcess @solid_cProgram))) (And.intro (And.intro @solid_cGate @solid_cEvent) (And.intro @solid_cIns (And.intro @solid_cCore @solid_cPlaces)))) (And.intro (And.intro (And.intro @solid_cImage @solid_cKernel) (And.intro @solid_cMachine (And.intro @flat_cEntry @flat_cEvent))) (And.intro (And.intro @flat_cIns (And.intro @snoc_cNode @snoc_cEntry)) (And.intro @snoc_cMonitor (And.intro @snoc_cProcess @snoc_cProgram))))) (And.intro (And.intro (And.intro (And.intro @snoc_cGate @snoc_cEvent) (And.intro @snoc_cIns (And.intro @snoc_cCore @snoc_cPlaces))) (And.intro (And.intro @snoc_cImage @snoc_cKernel) (And.intro @snoc_cMachine (And.intro @set_cNode @set_cEntry)))) (And.intro (And.intro (And.intro @set_cMonitor @set_cProcess) (And.intro @set_cProgram (And.intro @set_cGate @set_cEvent))) (And.intro (And.intro @set_cIns (And.intro @set_cCore @set_cPlaces)) (And.intro @set_cImage (And.intro @set_cKernel @set_cMachine))))))
theorem sem_laws_szIntS (xs : List Int) (h : xs.length ≤ 140737488351232) (n : Int) (h1 : -1 ≤ n) (h2 : n ≤ 4611686018427387904) : S_laws_szIntS.sem [.tree 1 (xs.map cI), .int .i64 n] = some (.int .i64 (lft n xs.length), []) := by
  rw [sg_laws_szIntS, sem_go]
  simp +contextual (maxSteps := 10000000) (disch := omega) only [F_laws_szIntS, params, EG, EL, simprocAttr, FB, FT, cx_laws_szIntS, wrapI]
  unfold lft
  split <;> rfl
theorem sem_laws_szImage (x : DImage) (g : gdImage x) (n : Int) (h1 : -1 ≤ n) (h2 : n ≤ 4611686018427387904) : S_laws_szImage.sem [.agg (cImage x), .int .i64 n] = some (.int .i64 (lft n (wtImage x)), []) := by
  obtain ⟨⟨g0, g0e⟩, ⟨g1, g1e⟩, g2⟩ := (show (x.Text.length ≤ 140737488351232 ∧ ∀ y ∈ x.Text, i64 y) ∧ (x.Starts.length ≤ 140737488351232 ∧ ∀ y ∈ x.Starts, i64 y) ∧ i64 x.Size from g)
  skip
  unfold wtImage
  have kW := lft_or n (x.Text.length + x.Starts.length)
  rw [sg_laws_szImage, sem_go]
  rcases lft_or (n) (x.Text.length) with ⟨e0, f0⟩ | ⟨e0, f0⟩
  · simp (maxSteps := 10000000) (disch := first | assumption | omega) only [F_laws_szImage, params, EG, EL, simprocAttr, FB, FT, cx_laws_szImage, cl_laws_szIntS, sem_laws_szIntS, wrapI, neg1_lt, e0]
    first | done | (simp only [Option.some.injEq, Prod.mk.injEq, AV.int.injEq, AV.bool.injEq, AV.str.injEq, true_and, and_true]; omega)
  · have c0 : ¬ n - ((x.Text.length : Nat) : Int) < 0 := by omega
    rcases lft_or (n - ((x.Text.length : Nat) : Int)) (x.Starts.length) with ⟨e1, f1⟩ | ⟨e1, f1⟩
    · simp (maxSteps := 10000000) (disch := first | assumption | omega) only [F_laws_szImage, params, EG, EL, simprocAttr, FB, FT, cx_laws_szImage, cl_laws_szIntS, sem_laws_szIntS, wrapI, neg1_lt, e0, c0, e1]
      first | done | (simp only [Option.some.injEq, Prod.mk.injEq, AV.int.injEq, AV.bool.injEq, AV.str.injEq, true_and, and_true]; omega)
    · have c1 : ¬ n - ((x.Text.length : Nat) : Int) - ((x.Starts.length : Nat) : Int) < 0 := by omega
      simp (maxSteps := 10000000) (disch := first | assumption | omega) only [F_laws_szImage, params, EG, EL, simprocAttr, FB, FT, cx_laws_szImage, cl_laws_szIntS, sem_laws_szIntS, wrapI, neg1_lt, e0, c0, e1, c1]
      first | done | rfl | (simp only [Option.some.injEq, Prod.mk.injEq, AV.int.injEq, AV.bool.injEq, AV.str.injEq, true_and, and_true]; omega)
theorem sem_laws_szCore (x : DCore) (g : gdCore x) (n : Int) (h1 : -1 ≤ n) (h2 : n ≤ 4611686018427387904) : S_laws_szCore.sem [.agg (cCore x), .int .i64 n] = some (.int .i64 (lft n (wtCore x)), []) := by
  obtain ⟨⟨g0, g0e⟩, g1, g2⟩ := (show (x.Regs.length ≤ 140737488351232 ∧ ∀ y ∈ x.Regs, i64 y) ∧ i64 x.Pc ∧ i64 x.Process from g)
  skip
  unfold wtCore
  have kW := lft_or n (x.Regs.length)
  rw [sg_laws_szCore, sem_go]
  rcases lft_or (n) (x.Regs.length) with ⟨e0, f0⟩ | ⟨e0, f0⟩
  · simp (maxSteps := 10000000) (disch := first | assumption | omega) only [F_laws_szCore, params, EG, EL, simprocAttr, FB, FT, cx_laws_szCore, cl_laws_szIntS, sem_laws_szIntS, wrapI, neg1_lt, e0]
    first | done | (simp only [Option.some.injEq, Prod.mk.injEq, AV.int.injEq, AV.bool.injEq, AV.str.injEq, true_and, and_true]; omega)
  · have c0 : ¬ n - ((x.Regs.length : Nat) : Int) < 0 := by omega
    simp (maxSteps := 10000000) (disch := first | assumption | omega) only [F_laws_szCore, params, EG, EL, simprocAttr, FB, FT, cx_laws_szCore, cl_laws_szIntS, sem_laws_szIntS, wrapI, neg1_lt, e0, c0]
    first | done | rfl | (simp only [Option.some.injEq, Prod.mk.injEq, AV.int.injEq, AV.bool.injEq, AV.str.injEq, true_and, and_true]; omega)
theorem loop_laws_szCoreS (xs : List DCore) (g : ∀ y ∈ xs, gdCore y) (hl : xs.length ≤ 140737488351232) (n : Int) (h1 : 0 ≤ n) (h2 : n ≤ 4611686018427387904) :
    loopV X_laws_szCoreS 0 [0, 1, 5] [(1, [1]), (0, [4])] B0_laws_szCoreS ⟨[(0, .tree 3 (xs.map cCore)), (1, .int .i64 n), (5, .int .i64 0)], []⟩ = szR 4 n (tot wtCore xs) := by
  refine loop_list xs (fun _ m => 0 ≤ m ∧ m ≤ 4611686018427387904) (fun i (m : Int) => ⟨[(0, .tree 3 (xs.map cCore)), (1, .int .i64 m), (5, .int .i64 ((i : Nat) : Int))], []⟩) (fun rest m => szR 4 m (tot wtCore rest)) ?_ ?_ n ⟨h1, h2⟩
  · rintro m ⟨m1, m2⟩
    rw [loopV_by B0_laws_szCoreS.eq_1]
    simp only [EG, EL, simprocAttr, int_lt_irrefl]
    exact szR_zero m1
  · rintro i h x rest m rfl rfl ⟨m1, m2⟩ ih
    have hi : (i : Int) < (xs.length : Int) := by omega
    have hx := g _ (List.getElem_mem h)
    skip
    rw [loopV_by B0_laws_szCoreS.eq_1]
    by_cases hc : m - ((wtCore xs[i] : Nat) : Int) < 0
    · have hq : lft m (wtCore xs[i]) = -1 := if_pos hc
      simp (maxSteps := 10000000) (disch := first | assumption | omega) only [EG, EL, simprocAttr, FB, FT, hi, wrap_succ, getRow _ _ h, cx_laws_szCoreS, cl_laws_szCore, sem_laws_szCore, hc, hq, neg1_lt]
      exact szR_neg hc
    · have hq : lft m (wtCore xs[i]) = m - ((wtCore xs[i] : Nat) : Int) := if_neg hc
      simp (maxSteps := 10000000) (disch := first | assumption | omega) only [EG, EL, simprocAttr, FB, FT, hi, wrap_succ, getRow _ _ h, cx_laws_szCoreS, cl_laws_szCore, sem_laws_szCore, hc, hq, neg1_lt]
      skip
      rw [ih _ ⟨by omega, by omega⟩]
      exact szR_pos
theorem sem_laws_szCoreS (xs : List DCore) (h : xs.length ≤ 140737488351232) (g : ∀ y ∈ xs, gdCore y) (n : Int) (h1 : -1 ≤ n) (h2 : n ≤ 4611686018427387904) : S_laws_szCoreS.sem [.tree 3 (xs.map cCore), .int .i64 n] = some (.int .i64 (lft n (xs.length + tot wtCore xs)), []) := by
  rw [sg_laws_szCoreS, sem_go]
  by_cases hc : n - (xs.length : Int) < 0
  · simp (maxSteps := 10000000) (disch := omega) only [F_laws_szCoreS, params, EG, EL, simprocAttr, FB, FT, cx_laws_szCoreS, cl_laws_szCore, sem_laws_szCore, wrapI, hc, lft]
    rw [if_pos (by omega)]
  · simp (maxSteps := 10000000) (disch := first | assumption | omega) only [F_laws_szCoreS, params, EG, EL, simprocAttr, FB, FT, cx_laws_szCoreS, cl_laws_szCore, sem_laws_szCore, wrapI, hc, loop_laws_szCoreS, goE_szR]
    unfold lft
    (repeat' split) <;> first | rfl | omega | (simp only [Option.some.injEq, Prod.mk.injEq, AV.int.injEq, AV.bool.injEq, AV.str.injEq, true_and, and_true]; omega)
theorem sem_laws_szGate (x : DGate) (g : gdGate x) (n : Int) (h1 : -1 ≤ n) (h2 : n ≤ 4611686018427387904) : S_laws_szGate.sem [.agg (cGate x), .int .i64 n] = some (.int .i64 (lft n (wtGate x)), []) := by
  obtain ⟨g0, ⟨g1, g1e⟩, ⟨g2, g2e⟩⟩ := (show i64 x.Owner ∧ (x.Waits.length ≤ 140737488351232 ∧ ∀ y ∈ x.Waits, i64 y) ∧ (x.Queues.length ≤ 140737488351232 ∧ ∀ y ∈ x.Queues, i64 y) from g)
  skip
  unfold wtGate
  have kW := lft_or n (x.Waits.length + x.Queues.length)
  rw [sg_laws_szGate, sem_go]
  rcases lft_or (n) (x.Waits.length) with ⟨e0, f0⟩ | ⟨e0, f0⟩
  · simp (maxSteps := 10000000) (disch := first | assumption | omega) only [F_laws_szGate, params, EG, EL, simprocAttr, FB, FT, cx_laws_szGate, cl_laws_szIntS, sem_laws_szIntS, wrapI, neg1_lt, e0]
    first | done | (simp only [Option.some.injEq, Prod.mk.injEq, AV.int.injEq, AV.bool.injEq, AV.str.injEq, true_and, and_true]; omega)
  · have c0 : ¬ n - ((x.Waits.length : Nat) : Int) < 0 := by omega
    rcases lft_or (n - ((x.Waits.length : Nat) : Int)) (x.Queues.length) with ⟨e1, f1⟩ | ⟨e1, f1⟩
    · simp (maxSteps := 10000000) (disch := first | assumption | omega) only [F_laws_szGate, params, EG, EL, simprocAttr, FB, FT, cx_laws_szGate, cl_laws_szIntS, sem_laws_szIntS, wrapI, neg1_lt, e0, c0, e1]
      first | done | (simp only [Option.some.injEq, Prod.mk.injEq, AV.int.injEq, AV.bool.injEq, AV.str.injEq, true_and, and_true]; omega)
    · have c1 : ¬ n - ((x.Waits.length : Nat) : Int) - ((x.Queues.length : Nat) : Int) < 0 := by omega
      simp (maxSteps := 10000000) (disch := first | assumption | omega) only [F_laws_szGate, params, EG, EL, simprocAttr, FB, FT, cx_laws_szGate, cl_laws_szIntS, sem_laws_szIntS, wrapI, neg1_lt, e0, c0, e1, c1]
      first | done | rfl | (simp only [Option.some.injEq, Prod.mk.injEq, AV.int.injEq, AV.bool.injEq, AV.str.injEq, true_and, and_true]; omega)
theorem loop_laws_szGateS (xs : List DGate) (g : ∀ y ∈ xs, gdGate y) (hl : xs.length ≤ 140737488351232) (n : Int) (h1 : 0 ≤ n) (h2 : n ≤ 4611686018427387904) :
    loopV X_laws_szGateS 0 [0, 1, 5] [(1, [1]), (0, [4])] B0_laws_szGateS ⟨[(0, .tree 3 (xs.map cGate)), (1, .int .i64 n), (5, .int .i64 0)], []⟩ = szR 4 n (tot wtGate xs) := by
  refine loop_list xs (fun _ m => 0 ≤ m ∧ m ≤ 4611686018427387904) (fun i (m : Int) => ⟨[(0, .tree 3 (xs.map cGate)), (1, .int .i64 m), (5, .int .i64 ((i : Nat) : Int))], []⟩) (fun rest m => szR 4 m (tot wtGate rest)) ?_ ?_ n ⟨h1, h2⟩
  · rintro m ⟨m1, m2⟩
    rw [loopV_by B0_laws_szGateS.eq_1]
    simp only [EG, EL, simprocAttr, int_lt_irrefl]
    exact szR_zero m1
  · rintro i h x rest m rfl rfl ⟨m1, m2⟩ ih
    have hi : (i : Int) < (xs.length : Int) := by omega
    have hx := g _ (List.getElem_mem h)
    skip
    rw [loopV_by B0_laws_szGateS.eq_1]
    by_cases hc : m - ((wtGate xs[i] : Nat) : Int) < 0
    · have hq : lft m (wtGate xs[i]) = -1 := if_pos hc
      simp (maxSteps := 10000000) (disch := first | assumption | omega) only [EG, EL, simprocAttr, FB, FT, hi, wrap_succ, getRow _ _ h, cx_laws_szGateS, cl_laws_szGate, sem_laws_szGate, hc, hq, neg1_lt]
      exact szR_neg hc
    · have hq : lft m (wtGate xs[i]) = m - ((wtGate xs[i] : Nat) : Int) := if_neg hc
      simp (maxSteps := 10000000) (disch := first | assumption | omega) only [EG, EL, simprocAttr, FB, FT, hi, wrap_succ, getRow _ _ h, cx_laws_szGateS, cl_laws_szGate, sem_laws_szGate, hc, hq, neg1_lt]
      skip
      rw [ih _ ⟨by omega, by omega⟩]
      exact szR_pos
theorem sem_laws_szGateS (xs : List DGate) (h : xs.length ≤ 140737488351232) (g : ∀ y ∈ xs, gdGate y) (n : Int) (h1 : -1 ≤ n) (h2 : n ≤ 4611686018427387904) : S_laws_szGateS.sem [.tree 3 (xs.map cGate), .int .i64 n] = some (.int .i64 (lft n (xs.length + tot wtGate xs)), []) := by
  rw [sg_laws_szGateS, sem_go]
  by_cases hc : n - (xs.length : Int) < 0
  · simp (maxSteps := 10000000) (disch := omega) only [F_laws_szGateS, params, EG, EL, simprocAttr, FB, FT, cx_laws_szGateS, cl_laws_szGate, sem_laws_szGate, wrapI, hc, lft]
    rw [if_pos (by omega)]
  · simp (maxSteps := 10000000) (disch := first | assumption | omega) only [F_laws_szGateS, params, EG, EL, simprocAttr, FB, FT, cx_laws_szGateS, cl_laws_szGate, sem_laws_szGate, wrapI, hc, loop_laws_szGateS, goE_szR]
    unfold lft
    (repeat' split) <;> first | rfl | omega | (simp only [Option.some.injEq, Prod.mk.injEq, AV.int.injEq, AV.bool.injEq, AV.str.injEq, true_and, and_true]; omega)
theorem sem_laws_szBoolS (xs : List Bool) (h : xs.length ≤ 140737488351232) (n : Int) (h1 : -1 ≤ n) (h2 : n ≤ 4611686018427387904) : S_laws_szBoolS.sem [.tree 1 (xs.map cB), .int .i64 n] = some (.int .i64 (lft n xs.length), []) := by
  rw [sg_laws_szBoolS, sem_go]
  simp +contextual (maxSteps := 10000000) (disch := omega) only [F_laws_szBoolS, params, EG, EL, simprocAttr, FB, FT, cx_laws_szBoolS, wrapI]
  unfold lft
  split <;> rfl
theorem sem_laws_szKernel (x : DKernel) (g : gdKernel x) (n : Int) (h1 : -1 ≤ n) (h2 : n ≤ 4611686018427387904) : S_laws_szKernel.sem [.agg (cKernel x), .int .i64 n] = some (.int .i64 (lft n (wtKernel x)), []) := by
  obtain ⟨⟨g0, g0e⟩, ⟨g1, g1e⟩, ⟨g2, g2e⟩, g3⟩ := (show (x.Gates.length ≤ 140737488351232 ∧ ∀ y ∈ x.Gates, gdGate y) ∧ (x.Ready.length ≤ 140737488351232 ∧ ∀ y ∈ x.Ready, i64 y) ∧ (x.Saved.length ≤ 140737488351232 ∧ ∀ y ∈ x.Saved, gdCore y) ∧ (x.Over.length ≤ 140737488351232) from g)
  skip
  unfold wtKernel
  have kW := lft_or n ((x.Gates.length + tot wtGate x.Gates) + x.Ready.length + (x.Saved.length + tot wtCore x.Saved) + x.Over.length)
  rw [sg_laws_szKernel, sem_go]
  rcases lft_or (n) (x.Gates.length + tot wtGate x.Gates) with ⟨e0, f0⟩ | ⟨e0, f0⟩
  · simp (maxSteps := 10000000) (disch := first | assumption | omega) only [F_laws_szKernel, params, EG, EL, simprocAttr, FB, FT, cx_laws_szKernel, cl_laws_szGateS, sem_laws_szGateS, cl_laws_szIntS, sem_laws_szIntS, cl_laws_szCoreS, sem_laws_szCoreS, cl_laws_szBoolS, sem_laws_szBoolS, wrapI, neg1_lt, e0]
    first | done | (simp only [Option.some.injEq, Prod.mk.injEq, AV.int.injEq, AV.bool.injEq, AV.str.injEq, true_and, and_true]; omega)
  · have c0 : ¬ n - ((x.Gates.length + tot wtGate x.Gates : Nat) : Int) < 0 := by omega
    rcases lft_or (n - ((x.Gates.length + tot wtGate x.Gates : Nat) : Int)) (x.Ready.length) with ⟨e1, f1⟩ | ⟨e1, f1⟩
    · simp (maxSteps := 10000000) (disch := first | assumption | omega) only [F_laws_szKernel, params, EG, EL, simprocAttr, FB, FT, cx_laws_szKernel, cl_laws_szGateS, sem_laws_szGateS, cl_laws_szIntS, sem_laws_szIntS, cl_laws_szCoreS, sem_laws_szCoreS, cl_laws_szBoolS, sem_laws_szBoolS, wrapI, neg1_lt, e0, c0, e1]
      first | done | (simp only [Option.some.injEq, Prod.mk.injEq, AV.int.injEq, AV.bool.injEq, AV.str.injEq, true_and, and_true]; omega)
    · have c1 : ¬ n - ((x.Gates.length + tot wtGate x.Gates : Nat) : Int) - ((x.Ready.length : Nat) : Int) < 0 := by omega
      rcases lft_or (n - ((x.Gates.length + tot wtGate x.Gates : Nat) : Int) - ((x.Ready.length : Nat) : Int)) (x.Saved.length + tot wtCore x.Saved) with ⟨e2, f2⟩ | ⟨e2, f2⟩
      · simp (maxSteps := 10000000) (disch := first | assumption | omega) only [F_laws_szKernel, params, EG, EL, simprocAttr, FB, FT, cx_laws_szKernel, cl_laws_szGateS, sem_laws_szGateS, cl_laws_szIntS, sem_laws_szIntS, cl_laws_szCoreS, sem_laws_szCoreS, cl_laws_szBoolS, sem_laws_szBoolS, wrapI, neg1_lt, e0, c0, e1, c1, e2]
        first | done | (simp only [Option.some.injEq, Prod.mk.injEq, AV.int.injEq, AV.bool.injEq, AV.str.injEq, true_and, and_true]; omega)
      · have c2 : ¬ n - ((x.Gates.length + tot wtGate x.Gates : Nat) : Int) - ((x.Ready.length : Nat) : Int) - ((x.Saved.length + tot wtCore x.Saved : Nat) : Int) < 0 := by omega
        rcases lft_or (n - ((x.Gates.length + tot wtGate x.Gates : Nat) : Int) - ((x.Ready.length : Nat) : Int) - ((x.Saved.length + tot wtCore x.Saved : Nat) : Int)) (x.Over.length) with ⟨e3, f3⟩ | ⟨e3, f3⟩
        · simp (maxSteps := 10000000) (disch := first | assumption | omega) only [F_laws_szKernel, params, EG, EL, simprocAttr, FB, FT, cx_laws_szKernel, cl_laws_szGateS, sem_laws_szGateS, cl_laws_szIntS, sem_laws_szIntS, cl_laws_szCoreS, sem_laws_szCoreS, cl_laws_szBoolS, sem_laws_szBoolS, wrapI, neg1_lt, e0, c0, e1, c1, e2, c2, e3]
          first | done | (simp only [Option.some.injEq, Prod.mk.injEq, AV.int.injEq, AV.bool.injEq, AV.str.injEq, true_and, and_true]; omega)
        · have c3 : ¬ n - ((x.Gates.length + tot wtGate x.Gates : Nat) : Int) - ((x.Ready.length : Nat) : Int) - ((x.Saved.length + tot wtCore x.Saved : Nat) : Int) - ((x.Over.length : Nat) : Int) < 0 := by omega
          simp (maxSteps := 10000000) (disch := first | assumption | omega) only [F_laws_szKernel, params, EG, EL, simprocAttr, FB, FT, cx_laws_szKernel, cl_laws_szGateS, sem_laws_szGateS, cl_laws_szIntS, sem_laws_szIntS, cl_laws_szCoreS, sem_laws_szCoreS, cl_laws_szBoolS, sem_laws_szBoolS, wrapI, neg1_lt, e0, c0, e1, c1, e2, c2, e3, c3]
          first | done | rfl | (simp only [Option.some.injEq, Prod.mk.injEq, AV.int.injEq, AV.bool.injEq, AV.str.injEq, true_and, and_true]; omega)
theorem sem_laws_szEventS (xs : List DEvent) (h : xs.length ≤ 140737488351232) (n : Int) (h1 : -1 ≤ n) (h2 : n ≤ 4611686018427387904) : S_laws_szEventS.sem [.tree 3 (xs.map cEvent), .int .i64 n] = some (.int .i64 (lft n xs.length), []) := by
  rw [sg_laws_szEventS, sem_go]
  simp +contextual (maxSteps := 10000000) (disch := omega) only [F_laws_szEventS, params, EG, EL, simprocAttr, FB, FT, cx_laws_szEventS, wrapI]
  unfold lft
  split <;> rfl
theorem sem_laws_szMachine (x : DMachine) (g : gdMachine x) (n : Int) (h1 : -1 ≤ n) (h2 : n ≤ 4611686018427387904) : S_laws_szMachine.sem [.agg (cMachine x), .int .i64 n] = some (.int .i64 (lft n (wtMachine x)), []) := by
  obtain ⟨g0, ⟨g1, g1e⟩, ⟨g2, g2e⟩, g3, ⟨g4, g4e⟩, ⟨g5, g5e⟩⟩ := (show gdImage x.Image ∧ (x.Mem.length ≤ 140737488351232 ∧ ∀ y ∈ x.Mem, i64 y) ∧ (x.Cores.length ≤ 140737488351232 ∧ ∀ y ∈ x.Cores, gdCore y) ∧ gdKernel x.Kernel ∧ (x.Input.length ≤ 140737488351232 ∧ ∀ y ∈ x.Input, i64 y) ∧ (x.Events.length ≤ 140737488351232 ∧ ∀ y ∈ x.Events, gdEvent y) from g)
  skip
  unfold wtMachine
  have kW := lft_or n ((wtImage x.Image) + x.Mem.length + (x.Cores.length + tot wtCore x.Cores) + (wtKernel x.Kernel) + x.Input.length + x.Events.length)
  rw [sg_laws_szMachine, sem_go]
  rcases lft_or (n) (wtImage x.Image) with ⟨e0, f0⟩ | ⟨e0, f0⟩
  · simp (maxSteps := 10000000) (disch := first | assumption | omega) only [F_laws_szMachine, params, EG, EL, simprocAttr, FB, FT, cx_laws_szMachine, cl_laws_szImage, sem_laws_szImage, cl_laws_szIntS, sem_laws_szIntS, cl_laws_szCoreS, sem_laws_szCoreS, cl_laws_szKernel, sem_laws_szKernel, cl_laws_szEventS, sem_laws_szEventS, wrapI, neg1_lt, e0]
    first | done | (simp only [Option.some.injEq, Prod.mk.injEq, AV.int.injEq, AV.bool.injEq, AV.str.injEq, true_and, and_true]; omega)
  · have c0 : ¬ n - ((wtImage x.Image : Nat) : Int) < 0 := by omega
    rcases lft_or (n - ((wtImage x.Image : Nat) : Int)) (x.Mem.length) with ⟨e1, f1⟩ | ⟨e1, f1⟩
    · simp (maxSteps := 10000000) (disch := first | assumption | omega) only [F_laws_szMachine, params, EG, EL, simprocAttr, FB, FT, cx_laws_szMachine, cl_laws_szImage, sem_laws_szImage, cl_laws_szIntS, sem_laws_szIntS, cl_laws_szCoreS, sem_laws_szCoreS, cl_laws_szKernel, sem_laws_szKernel, cl_laws_szEventS, sem_laws_szEventS, wrapI, neg1_lt, e0, c0, e1]
      first | done | (simp only [Option.some.injEq, Prod.mk.injEq, AV.int.injEq, AV.bool.injEq, AV.str.injEq, true_and, and_true]; omega)
    · have c1 : ¬ n - ((wtImage x.Image : Nat) : Int) - ((x.Mem.length : Nat) : Int) < 0 := by omega
      rcases lft_or (n - ((wtImage x.Image : Nat) : Int) - ((x.Mem.length : Nat) : Int)) (x.Cores.length + tot wtCore x.Cores) with ⟨e2, f2⟩ | ⟨e2, f2⟩
      · simp (maxSteps := 10000000) (disch := first | assumption | omega) only [F_laws_szMachine, params, EG, EL, simprocAttr, FB, FT, cx_laws_szMachine, cl_laws_szImage, sem_laws_szImage, cl_laws_szIntS, sem_laws_szIntS, cl_laws_szCoreS, sem_laws_szCoreS, cl_laws_szKernel, sem_laws_szKernel, cl_laws_szEventS, sem_laws_szEventS, wrapI, neg1_lt, e0, c0, e1, c1, e2]
        first | done | (simp only [Option.some.injEq, Prod.mk.injEq, AV.int.injEq, AV.bool.injEq, AV.str.injEq, true_and, and_true]; omega)
      · have c2 : ¬ n - ((wtImage x.Image : Nat) : Int) - ((x.Mem.length : Nat) : Int) - ((x.Cores.length + tot wtCore x.Cores : Nat) : Int) < 0 := by omega
        rcases lft_or (n - ((wtImage x.Image : Nat) : Int) - ((x.Mem.length : Nat) : Int) - ((x.Cores.length + tot wtCore x.Cores : Nat) : Int)) (wtKernel x.Kernel) with ⟨e3, f3⟩ | ⟨e3, f3⟩
        · simp (maxSteps := 10000000) (disch := first | assumption | omega) only [F_laws_szMachine, params, EG, EL, simprocAttr, FB, FT, cx_laws_szMachine, cl_laws_szImage, sem_laws_szImage, cl_laws_szIntS, sem_laws_szIntS, cl_laws_szCoreS, sem_laws_szCoreS, cl_laws_szKernel, sem_laws_szKernel, cl_laws_szEventS, sem_laws_szEventS, wrapI, neg1_lt, e0, c0, e1, c1, e2, c2, e3]
          first | done | (simp only [Option.some.injEq, Prod.mk.injEq, AV.int.injEq, AV.bool.injEq, AV.str.injEq, true_and, and_true]; omega)
        · have c3 : ¬ n - ((wtImage x.Image : Nat) : Int) - ((x.Mem.length : Nat) : Int) - ((x.Cores.length + tot wtCore x.Cores : Nat) : Int) - ((wtKernel x.Kernel : Nat) : Int) < 0 := by omega
          rcases lft_or (n - ((wtImage x.Image : Nat) : Int) - ((x.Mem.length : Nat) : Int) - ((x.Cores.length + tot wtCore x.Cores : Nat) : Int) - ((wtKernel x.Kernel : Nat) : Int)) (x.Input.length) with ⟨e4, f4⟩ | ⟨e4, f4⟩
          · simp (maxSteps := 10000000) (disch := first | assumption | omega) only [F_laws_szMachine, params, EG, EL, simprocAttr, FB, FT, cx_laws_szMachine, cl_laws_szImage, sem_laws_szImage, cl_laws_szIntS, sem_laws_szIntS, cl_laws_szCoreS, sem_laws_szCoreS, cl_laws_szKernel, sem_laws_szKernel, cl_laws_szEventS, sem_laws_szEventS, wrapI, neg1_lt, e0, c0, e1, c1, e2, c2, e3, c3, e4]
            first | done | (simp only [Option.some.injEq, Prod.mk.injEq, AV.int.injEq, AV.bool.injEq, AV.str.injEq, true_and, and_true]; omega)
          · have c4 : ¬ n - ((wtImage x.Image : Nat) : Int) - ((x.Mem.length : Nat) : Int) - ((x.Cores.length + tot wtCore x.Cores : Nat) : Int) - ((wtKernel x.Kernel : Nat) : Int) - ((x.Input.length : Nat) : Int) < 0 := by omega
            rcases lft_or (n - ((wtImage x.Image : Nat) : Int) - ((x.Mem.length : Nat) : Int) - ((x.Cores.length + tot wtCore x.Cores : Nat) : Int) - ((wtKernel x.Kernel : Nat) : Int) - ((x.Input.length : Nat) : Int)) (x.Events.length) with ⟨e5, f5⟩ | ⟨e5, f5⟩
            · simp (maxSteps := 10000000) (disch := first | assumption | omega) only [F_laws_szMachine, params, EG, EL, simprocAttr, FB, FT, cx_laws_szMachine, cl_laws_szImage, sem_laws_szImage, cl_laws_szIntS, sem_laws_szIntS, cl_laws_szCoreS, sem_laws_szCoreS, cl_laws_szKernel, sem_laws_szKernel, cl_laws_szEventS, sem_laws_szEventS, wrapI, neg1_lt, e0, c0, e1, c1, e2, c2, e3, c3, e4, c4, e5]
              first | done | (simp only [Option.some.injEq, Prod.mk.injEq, AV.int.injEq, AV.bool.injEq, AV.str.injEq, true_and, and_true]; omega)
            · have c5 : ¬ n - ((wtImage x.Image : Nat) : Int) - ((x.Mem.length : Nat) : Int) - ((x.Cores.length + tot wtCore x.Cores : Nat) : Int) - ((wtKernel x.Kernel : Nat) : Int) - ((x.Input.length : Nat) : Int) - ((x.Events.length : Nat) : Int) < 0 := by omega
              simp (maxSteps := 10000000) (disch := first | assumption | omega) only [F_laws_szMachine, params, EG, EL, simprocAttr, FB, FT, cx_laws_szMachine, cl_laws_szImage, sem_laws_szImage, cl_laws_szIntS, sem_laws_szIntS, cl_laws_szCoreS, sem_laws_szCoreS, cl_laws_szKernel, sem_laws_szKernel, cl_laws_szEventS, sem_laws_szEventS, wrapI, neg1_lt, e0, c0, e1, c1, e2, c2, e3, c3, e4, c4, e5, c5]
              first | done | rfl | (simp only [Option.some.injEq, Prod.mk.injEq, AV.int.injEq, AV.bool.injEq, AV.str.injEq, true_and, and_true]; omega)
theorem loop_laws_toIntS (xs : List Int) (hl : xs.length ≤ 1048576) :
    loopV X_laws_toIntS 0 [0, 3, 4] [(1, [3])] B0_laws_toIntS ⟨[(0, .tree 1 (xs.map cI)), (3, .sl ⟨0, none, 0⟩ 1 0 xs.length), (4, .int .i64 0)], [some ⟨false, 0, 1, fillR cI [.int .i64 0] xs 0⟩]⟩ = some (.exit 0, ⟨[(3, .sl ⟨0, none, 0⟩ 1 0 xs.length)], [some ⟨false, 0, 1, xs.map cI⟩]⟩) := by
  refine loop_list xs (fun _ (_ : Unit) => True) (fun i _ => ⟨[(0, .tree 1 (xs.map cI)), (3, .sl ⟨0, none, 0⟩ 1 0 xs.length), (4, .int .i64 ((i : Nat) : Int))], [some ⟨false, 0, 1, fillR cI [.int .i64 0] xs i⟩]⟩) (fun _ _ => some (.exit 0, ⟨[(3, .sl ⟨0, none, 0⟩ 1 0 xs.length)], [some ⟨false, 0, 1, xs.map cI⟩]⟩)) ?_ ?_ () trivial
  · intro _ _
    rw [loopV_by B0_laws_toIntS.eq_1]
    simp only [EG, EL, simprocAttr, int_lt_irrefl, fillR_end]
  · rintro i h x rest _ rfl rfl _ ih
    have hi : (i : Int) < (xs.length : Int) := by omega
    skip
    have hf := fillR_set (c := cI) (z := [.int .i64 0]) h rfl
    simp only [cI] at hf
    rw [loopV_by B0_laws_toIntS.eq_1]
    simp (maxSteps := 10000000) (disch := first | assumption | omega) only [EG, EL, simprocAttr, FB, FT, hi, h, wrap_succ, getRow _ _ h, fillR_get h, fillR_length (Nat.le_of_lt h), cx_laws_toIntS]
    simp only [splice_eq, EG, EL, simprocAttr, hf]
    exact ih () trivial
theorem sem_laws_toIntS (xs : List Int) (h : xs.length ≤ 1048576) : S_laws_toIntS.sem [.tree 1 (xs.map cI)] = some (.tree 1 (xs.map cI), []) := by
  rw [sg_laws_toIntS, sem_go]
  simp (maxSteps := 10000000) (disch := omega) only [F_laws_toIntS, params, EG, EL, simprocAttr, FB, FT, cx_laws_toIntS, fillR_zero cI, loop_laws_toIntS xs h]
  rw [if_pos (by omega)]
theorem sem_laws_toImage (x : DImage) (h : wtImage x ≤ 1048576) : S_laws_toImage.sem [.agg (cImage x)] = some (.agg (cImage x), []) := by
  unfold wtImage at h
  rw [sg_laws_toImage, sem_go]
  simp (maxSteps := 10000000) (disch := omega) only [F_laws_toImage, params, EG, EL, simprocAttr, FB, FT, cx_laws_toImage, cl_laws_toIntS, sem_laws_toIntS]
theorem sem_laws_toCore (x : DCore) (h : wtCore x ≤ 1048576) : S_laws_toCore.sem [.agg (cCore x)] = some (.agg (cCore x), []) := by
  unfold wtCore at h
  rw [sg_laws_toCore, sem_go]
  simp (maxSteps := 10000000) (disch := omega) only [F_laws_toCore, params, EG, EL, simprocAttr, FB, FT, cx_laws_toCore, cl_laws_toIntS, sem_laws_toIntS]
theorem loop_laws_toCoreS (xs : List DCore) (hl : xs.length + tot wtCore xs ≤ 1048576) :
    loopV X_laws_toCoreS 0 [0, 3, 4] [(1, [3])] B0_laws_toCoreS ⟨[(0, .tree 3 (xs.map cCore)), (3, .sl ⟨0, none, 0⟩ 3 0 xs.length), (4, .int .i64 0)], [some ⟨false, 0, 3, fillR cCore [.tree 1 [], .int .i64 0, .int .i64 0] xs 0⟩]⟩ = some (.exit 0, ⟨[(3, .sl ⟨0, none, 0⟩ 3 0 xs.length)], [some ⟨false, 0, 3, xs.map cCore⟩]⟩) := by
  refine loop_list xs (fun _ (_ : Unit) => True) (fun i _ => ⟨[(0, .tree 3 (xs.map cCore)), (3, .sl ⟨0, none, 0⟩ 3 0 xs.length), (4, .int .i64 ((i : Nat) : Int))], [some ⟨false, 0, 3, fillR cCore [.tree 1 [], .int .i64 0, .int .i64 0] xs i⟩]⟩) (fun _ _ => some (.exit 0, ⟨[(3, .sl ⟨0, none, 0⟩ 3 0 xs.length)], [some ⟨false, 0, 3, xs.map cCore⟩]⟩)) ?_ ?_ () trivial
  · intro _ _
    rw [loopV_by B0_laws_toCoreS.eq_1]
    simp only [EG, EL, simprocAttr, int_lt_irrefl, fillR_end]
  · rintro i h x rest _ rfl rfl _ ih
    have hi : (i : Int) < (xs.length : Int) := by omega
    have hx : wtCore xs[i] ≤ 1048576 := by have := le_tot wtCore (List.getElem_mem h); omega
    have hf := fillR_set (c := cCore) (z := [.tree 1 [], .int .i64 0, .int .i64 0]) h rfl
    simp only [cCore] at hf
    rw [loopV_by B0_laws_toCoreS.eq_1]
    simp (maxSteps := 10000000) (disch := first | assumption | omega) only [EG, EL, simprocAttr, FB, FT, hi, h, wrap_succ, getRow _ _ h, fillR_get h, fillR_length (Nat.le_of_lt h), cx_laws_toCoreS, cl_laws_toCore, sem_laws_toCore]
    simp only [splice_eq, EG, EL, simprocAttr, hf]
    exact ih () trivial
theorem sem_laws_toCoreS (xs : List DCore) (h : xs.length + tot wtCore xs ≤ 1048576) : S_laws_toCoreS.sem [.tree 3 (xs.map cCore)] = some (.tree 3 (xs.map cCore), []) := by
  rw [sg_laws_toCoreS, sem_go]
  simp (maxSteps := 10000000) (disch := omega) only [F_laws_toCoreS, params, EG, EL, simprocAttr, FB, FT, cx_laws_toCoreS, cl_laws_toCore, sem_laws_toCore, fillR_zero cCore, loop_laws_toCoreS xs h]
  rw [if_pos (by omega)]
theorem sem_laws_toGate (x : DGate) (h : wtGate x ≤ 1048576) : S_laws_toGate.sem [.agg (cGate x)] = some (.agg (cGate x), []) := by
  unfold wtGate at h
  rw [sg_laws_toGate, sem_go]
  simp (maxSteps := 10000000) (disch := omega) only [F_laws_toGate, params, EG, EL, simprocAttr, FB, FT, cx_laws_toGate, cl_laws_toIntS, sem_laws_toIntS]
theorem loop_laws_toGateS (xs : List DGate) (hl : xs.length + tot wtGate xs ≤ 1048576) :
    loopV X_laws_toGateS 0 [0, 3, 4] [(1, [3])] B0_laws_toGateS ⟨[(0, .tree 3 (xs.map cGate)), (3, .sl ⟨0, none, 0⟩ 3 0 xs.length), (4, .int .i64 0)], [some ⟨false, 0, 3, fillR cGate [.int .i64 0, .tree 1 [], .tree 1 []] xs 0⟩]⟩ = some (.exit 0, ⟨[(3, .sl ⟨0, none, 0⟩ 3 0 xs.length)], [some ⟨false, 0, 3, xs.map cGate⟩]⟩) := by
  refine loop_list xs (fun _ (_ : Unit) => True) (fun i _ => ⟨[(0, .tree 3 (xs.map cGate)), (3, .sl ⟨0, none, 0⟩ 3 0 xs.length), (4, .int .i64 ((i : Nat) : Int))], [some ⟨false, 0, 3, fillR cGate [.int .i64 0, .tree 1 [], .tree 1 []] xs i⟩]⟩) (fun _ _ => some (.exit 0, ⟨[(3, .sl ⟨0, none, 0⟩ 3 0 xs.length)], [some ⟨false, 0, 3, xs.map cGate⟩]⟩)) ?_ ?_ () trivial
  · intro _ _
    rw [loopV_by B0_laws_toGateS.eq_1]
    simp only [EG, EL, simprocAttr, int_lt_irrefl, fillR_end]
  · rintro i h x rest _ rfl rfl _ ih
    have hi : (i : Int) < (xs.length : Int) := by omega
    have hx : wtGate xs[i] ≤ 1048576 := by have := le_tot wtGate (List.getElem_mem h); omega
    have hf := fillR_set (c := cGate) (z := [.int .i64 0, .tree 1 [], .tree 1 []]) h rfl
    simp only [cGate] at hf
    rw [loopV_by B0_laws_toGateS.eq_1]
    simp (maxSteps := 10000000) (disch := first | assumption | omega) only [EG, EL, simprocAttr, FB, FT, hi, h, wrap_succ, getRow _ _ h, fillR_get h, fillR_length (Nat.le_of_lt h), cx_laws_toGateS, cl_laws_toGate, sem_laws_toGate]
    simp only [splice_eq, EG, EL, simprocAttr, hf]
    exact ih () trivial
theorem sem_laws_toGateS (xs : List DGate) (h : xs.length + tot wtGate xs ≤ 1048576) : S_laws_toGateS.sem [.tree 3 (xs.map cGate)] = some (.tree 3 (xs.map cGate), []) := by
  rw [sg_laws_toGateS, sem_go]
  simp (maxSteps := 10000000) (disch := omega) only [F_laws_toGateS, params, EG, EL, simprocAttr, FB, FT, cx_laws_toGateS, cl_laws_toGate, sem_laws_toGate, fillR_zero cGate, loop_laws_toGateS xs h]
  rw [if_pos (by omega)]
theorem loop_laws_toBoolS (xs : List Bool) (hl : xs.length ≤ 1048576) :
    loopV X_laws_toBoolS 0 [0, 3, 4] [(1, [3])] B0_laws_toBoolS ⟨[(0, .tree 1 (xs.map cB)), (3, .sl ⟨0, none, 0⟩ 1 0 xs.length), (4, .int .i64 0)], [some ⟨false, 0, 1, fillR cB [.bool false] xs 0⟩]⟩ = some (.exit 0, ⟨[(3, .sl ⟨0, none, 0⟩ 1 0 xs.length)], [some ⟨false, 0, 1, xs.map cB⟩]⟩) := by
  refine loop_list xs (fun _ (_ : Unit) => True) (fun i _ => ⟨[(0, .tree 1 (xs.map cB)), (3, .sl ⟨0, none, 0⟩ 1 0 xs.length), (4, .int .i64 ((i : Nat) : Int))], [some ⟨false, 0, 1, fillR cB [.bool false] xs i⟩]⟩) (fun _ _ => some (.exit 0, ⟨[(3, .sl ⟨0, none, 0⟩ 1 0 xs.length)], [some ⟨false, 0, 1, xs.map cB⟩]⟩)) ?_ ?_ () trivial
  · intro _ _
    rw [loopV_by B0_laws_toBoolS.eq_1]
    simp only [EG, EL, simprocAttr, int_lt_irrefl, fillR_end]
  · rintro i h x rest _ rfl rfl _ ih
    have hi : (i : Int) < (xs.length : Int) := by omega
    skip
    have hf := fillR_set (c := cB) (z := [.bool false]) h rfl
    simp only [cB] at hf
    rw [loopV_by B0_laws_toBoolS.eq_1]
    simp (maxSteps := 10000000) (disch := first | assumption | omega) only [EG, EL, simprocAttr, FB, FT, hi, h, wrap_succ, getRow _ _ h, fillR_get h, fillR_length (Nat.le_of_lt h), cx_laws_toBoolS]
    simp only [splice_eq, EG, EL, simprocAttr, hf]
    exact ih () trivial
theorem sem_laws_toBoolS (xs : List Bool) (h : xs.length ≤ 1048576) : S_laws_toBoolS.sem [.tree 1 (xs.map cB)] = some (.tree 1 (xs.map cB), []) := by
  rw [sg_laws_toBoolS, sem_go]
  simp (maxSteps := 10000000) (disch := omega) only [F_laws_toBoolS, params, EG, EL, simprocAttr, FB, FT, cx_laws_toBoolS, fillR_zero cB, loop_laws_toBoolS xs h]
  rw [if_pos (by omega)]
theorem sem_laws_toKernel (x : DKernel) (h : wtKernel x ≤ 1048576) : S_laws_toKernel.sem [.agg (cKernel x)] = some (.agg (cKernel x), []) := by
  unfold wtKernel at h
  rw [sg_laws_toKernel, sem_go]
  simp (maxSteps := 10000000) (disch := omega) only [F_laws_toKernel, params, EG, EL, simprocAttr, FB, FT, cx_laws_toKernel, cl_laws_toGateS, sem_laws_toGateS, cl_laws_toIntS, sem_laws_toIntS, cl_laws_toCoreS, sem_laws_toCoreS, cl_laws_toBoolS, sem_laws_toBoolS]
theorem sem_laws_toEvent (x : DEvent) : S_laws_toEvent.sem [.agg (cEvent x)] = some (.agg (cEvent x), []) := by
  skip
  rw [sg_laws_toEvent, sem_go]
  simp (maxSteps := 10000000) (disch := omega) only [F_laws_toEvent, params, EG, EL, simprocAttr, FB, FT, cx_laws_toEvent]
theorem loop_laws_toEventS (xs : List DEvent) (hl : xs.length ≤ 1048576) :
    loopV X_laws_toEventS 0 [0, 3, 4] [(1, [3])] B0_laws_toEventS ⟨[(0, .tree 3 (xs.map cEvent)), (3, .sl ⟨0, none, 0⟩ 3 0 xs.length), (4, .int .i64 0)], [some ⟨false, 0, 3, fillR cEvent [.int .i64 0, .int .i64 0, .int .i64 0] xs 0⟩]⟩ = some (.exit 0, ⟨[(3, .sl ⟨0, none, 0⟩ 3 0 xs.length)], [some ⟨false, 0, 3, xs.map cEvent⟩]⟩) := by
  refine loop_list xs (fun _ (_ : Unit) => True) (fun i _ => ⟨[(0, .tree 3 (xs.map cEvent)), (3, .sl ⟨0, none, 0⟩ 3 0 xs.length), (4, .int .i64 ((i : Nat) : Int))], [some ⟨false, 0, 3, fillR cEvent [.int .i64 0, .int .i64 0, .int .i64 0] xs i⟩]⟩) (fun _ _ => some (.exit 0, ⟨[(3, .sl ⟨0, none, 0⟩ 3 0 xs.length)], [some ⟨false, 0, 3, xs.map cEvent⟩]⟩)) ?_ ?_ () trivial
  · intro _ _
    rw [loopV_by B0_laws_toEventS.eq_1]
    simp only [EG, EL, simprocAttr, int_lt_irrefl, fillR_end]
  · rintro i h x rest _ rfl rfl _ ih
    have hi : (i : Int) < (xs.length : Int) := by omega
    skip
    have hf := fillR_set (c := cEvent) (z := [.int .i64 0, .int .i64 0, .int .i64 0]) h rfl
    simp only [cEvent] at hf
    rw [loopV_by B0_laws_toEventS.eq_1]
    simp (maxSteps := 10000000) (disch := first | assumption | omega) only [EG, EL, simprocAttr, FB, FT, hi, h, wrap_succ, getRow _ _ h, fillR_get h, fillR_length (Nat.le_of_lt h), cx_laws_toEventS, cl_laws_toEvent, sem_laws_toEvent]
    simp only [splice_eq, EG, EL, simprocAttr, hf]
    exact ih () trivial
theorem sem_laws_toEventS (xs : List DEvent) (h : xs.length ≤ 1048576) : S_laws_toEventS.sem [.tree 3 (xs.map cEvent)] = some (.tree 3 (xs.map cEvent), []) := by
  rw [sg_laws_toEventS, sem_go]
  simp (maxSteps := 10000000) (disch := omega) only [F_laws_toEventS, params, EG, EL, simprocAttr, FB, FT, cx_laws_toEventS, cl_laws_toEvent, sem_laws_toEvent, fillR_zero cEvent, loop_laws_toEventS xs h]
  rw [if_pos (by omega)]
theorem sem_laws_toMachine (x : DMachine) (h : wtMachine x ≤ 1048576) : S_laws_toMachine.sem [.agg (cMachine x)] = some (.agg (cMachine x), []) := by
  unfold wtMachine at h
  rw [sg_laws_toMachine, sem_go]
  simp (maxSteps := 10000000) (disch := omega) only [F_laws_toMachine, params, EG, EL, simprocAttr, FB, FT, cx_laws_toMachine, cl_laws_toImage, sem_laws_toImage, cl_laws_toIntS, sem_laws_toIntS, cl_laws_toCoreS, sem_laws_toCoreS, cl_laws_toKernel, sem_laws_toKernel, cl_laws_toEventS, sem_laws_toEventS]
theorem loop_laws_eqIntS (xs : List Int) (hl : xs.length ≤ 1073741824) :
    loopV X_laws_eqIntS 0 [0, 1, 5] [(1, []), (0, [4])] B0_laws_eqIntS ⟨[(0, .tree 1 (xs.map cI)), (1, .tree 1 (xs.map cI)), (5, .int .i64 0)], []⟩ = some (.exit 0, ⟨[], []⟩) := by
  refine loop_list xs (fun _ (_ : Unit) => True) (fun i _ => ⟨[(0, .tree 1 (xs.map cI)), (1, .tree 1 (xs.map cI)), (5, .int .i64 ((i : Nat) : Int))], []⟩) (fun _ _ => some (.exit 0, ⟨[], []⟩)) ?_ ?_ () trivial
  · intro _ _
    rw [loopV_by B0_laws_eqIntS.eq_1]
    simp only [EG, EL, simprocAttr, int_lt_irrefl]
  · rintro i h x rest _ rfl rfl _ ih
    have hi : (i : Int) < (xs.length : Int) := by omega
    skip
    rw [loopV_by B0_laws_eqIntS.eq_1]
    simp (maxSteps := 10000000) (disch := first | assumption | omega) only [EG, EL, simprocAttr, FB, FT, hi, wrap_succ, getRow _ _ h, cx_laws_eqIntS]
    exact ih () trivial
theorem sem_laws_eqIntS (xs : List Int) (h : xs.length ≤ 1073741824) : S_laws_eqIntS.sem [.tree 1 (xs.map cI), .tree 1 (xs.map cI)] = some (.bool true, []) := by
  rw [sg_laws_eqIntS, sem_go]
  simp (maxSteps := 10000000) (disch := omega) only [F_laws_eqIntS, params, EG, EL, simprocAttr, FB, FT, cx_laws_eqIntS, loop_laws_eqIntS xs h]
theorem sem_laws_eqImage (x : DImage) (h : wtImage x ≤ 1073741824) : S_laws_eqImage.sem [.agg (cImage x), .agg (cImage x)] = some (.bool true, []) := by
  unfold wtImage at h
  rw [sg_laws_eqImage, sem_go]
  simp (maxSteps := 10000000) (disch := omega) only [F_laws_eqImage, params, EG, EL, simprocAttr, FB, FT, cx_laws_eqImage, cl_laws_eqIntS, sem_laws_eqIntS]
theorem sem_laws_eqCore (x : DCore) (h : wtCore x ≤ 1073741824) : S_laws_eqCore.sem [.agg (cCore x), .agg (cCore x)] = some (.bool true, []) := by
  unfold wtCore at h
  rw [sg_laws_eqCore, sem_go]
  simp (maxSteps := 10000000) (disch := omega) only [F_laws_eqCore, params, EG, EL, simprocAttr, FB, FT, cx_laws_eqCore, cl_laws_eqIntS, sem_laws_eqIntS]
theorem loop_laws_eqCoreS (xs : List DCore) (hl : xs.length + tot wtCore xs ≤ 1073741824) :
    loopV X_laws_eqCoreS 0 [0, 1, 5] [(1, []), (0, [4])] B0_laws_eqCoreS ⟨[(0, .tree 3 (xs.map cCore)), (1, .tree 3 (xs.map cCore)), (5, .int .i64 0)], []⟩ = some (.exit 0, ⟨[], []⟩) := by
  refine loop_list xs (fun _ (_ : Unit) => True) (fun i _ => ⟨[(0, .tree 3 (xs.map cCore)), (1, .tree 3 (xs.map cCore)), (5, .int .i64 ((i : Nat) : Int))], []⟩) (fun _ _ => some (.exit 0, ⟨[], []⟩)) ?_ ?_ () trivial
  · intro _ _
    rw [loopV_by B0_laws_eqCoreS.eq_1]
    simp only [EG, EL, simprocAttr, int_lt_irrefl]
  · rintro i h x rest _ rfl rfl _ ih
    have hi : (i : Int) < (xs.length : Int) := by omega
    have hx : wtCore xs[i] ≤ 1073741824 := by have := le_tot wtCore (List.getElem_mem h); omega
    rw [loopV_by B0_laws_eqCoreS.eq_1]
    simp (maxSteps := 10000000) (disch := first | assumption | omega) only [EG, EL, simprocAttr, FB, FT, hi, wrap_succ, getRow _ _ h, cx_laws_eqCoreS, cl_laws_eqCore, sem_laws_eqCore]
    exact ih () trivial
theorem sem_laws_eqCoreS (xs : List DCore) (h : xs.length + tot wtCore xs ≤ 1073741824) : S_laws_eqCoreS.sem [.tree 3 (xs.map cCore), .tree 3 (xs.map cCore)] = some (.bool true, []) := by
  rw [sg_laws_eqCoreS, sem_go]
  simp (maxSteps := 10000000) (disch := omega) only [F_laws_eqCoreS, params, EG, EL, simprocAttr, FB, FT, cx_laws_eqCoreS, cl_laws_eqCore, sem_laws_eqCore, loop_laws_eqCoreS xs h]
theorem sem_laws_eqGate (x : DGate) (h : wtGate x ≤ 1073741824) : S_laws_eqGate.sem [.agg (cGate x), .agg (cGate x)] = some (.bool true, []) := by
  unfold wtGate at h
  rw [sg_laws_eqGate, sem_go]
  simp (maxSteps := 10000000) (disch := omega) only [F_laws_eqGate, params, EG, EL, simprocAttr, FB, FT, cx_laws_eqGate, cl_laws_eqIntS, sem_laws_eqIntS]
theorem loop_laws_eqGateS (xs : List DGate) (hl : xs.length + tot wtGate xs ≤ 1073741824) :
    loopV X_laws_eqGateS 0 [0, 1, 5] [(1, []), (0, [4])] B0_laws_eqGateS ⟨[(0, .tree 3 (xs.map cGate)), (1, .tree 3 (xs.map cGate)), (5, .int .i64 0)], []⟩ = some (.exit 0, ⟨[], []⟩) := by
  refine loop_list xs (fun _ (_ : Unit) => True) (fun i _ => ⟨[(0, .tree 3 (xs.map cGate)), (1, .tree 3 (xs.map cGate)), (5, .int .i64 ((i : Nat) : Int))], []⟩) (fun _ _ => some (.exit 0, ⟨[], []⟩)) ?_ ?_ () trivial
  · intro _ _
    rw [loopV_by B0_laws_eqGateS.eq_1]
    simp only [EG, EL, simprocAttr, int_lt_irrefl]
  · rintro i h x rest _ rfl rfl _ ih
    have hi : (i : Int) < (xs.length : Int) := by omega
    have hx : wtGate xs[i] ≤ 1073741824 := by have := le_tot wtGate (List.getElem_mem h); omega
    rw [loopV_by B0_laws_eqGateS.eq_1]
    simp (maxSteps := 10000000) (disch := first | assumption | omega) only [EG, EL, simprocAttr, FB, FT, hi, wrap_succ, getRow _ _ h, cx_laws_eqGateS, cl_laws_eqGate, sem_laws_eqGate]
    exact ih () trivial
theorem sem_laws_eqGateS (xs : List DGate) (h : xs.length + tot wtGate xs ≤ 1073741824) : S_laws_eqGateS.sem [.tree 3 (xs.map cGate), .tree 3 (xs.map cGate)] = some (.bool true, []) := by
  rw [sg_laws_eqGateS, sem_go]
  simp (maxSteps := 10000000) (disch := omega) only [F_laws_eqGateS, params, EG, EL, simprocAttr, FB, FT, cx_laws_eqGateS, cl_laws_eqGate, sem_laws_eqGate, loop_laws_eqGateS xs h]
theorem loop_laws_eqBoolS (xs : List Bool) (hl : xs.length ≤ 1073741824) :
    loopV X_laws_eqBoolS 0 [0, 1, 5] [(1, []), (0, [4])] B0_laws_eqBoolS ⟨[(0, .tree 1 (xs.map cB)), (1, .tree 1 (xs.map cB)), (5, .int .i64 0)], []⟩ = some (.exit 0, ⟨[], []⟩) := by
  refine loop_list xs (fun _ (_ : Unit) => True) (fun i _ => ⟨[(0, .tree 1 (xs.map cB)), (1, .tree 1 (xs.map cB)), (5, .int .i64 ((i : Nat) : Int))], []⟩) (fun _ _ => some (.exit 0, ⟨[], []⟩)) ?_ ?_ () trivial
  · intro _ _
    rw [loopV_by B0_laws_eqBoolS.eq_1]
    simp only [EG, EL, simprocAttr, int_lt_irrefl]
  · rintro i h x rest _ rfl rfl _ ih
    have hi : (i : Int) < (xs.length : Int) := by omega
    skip
    rw [loopV_by B0_laws_eqBoolS.eq_1]
    simp (maxSteps := 10000000) (disch := first | assumption | omega) only [EG, EL, simprocAttr, FB, FT, hi, wrap_succ, getRow _ _ h, cx_laws_eqBoolS]
    exact ih () trivial
theorem sem_laws_eqBoolS (xs : List Bool) (h : xs.length ≤ 1073741824) : S_laws_eqBoolS.sem [.tree 1 (xs.map cB), .tree 1 (xs.map cB)] = some (.bool true, []) := by
  rw [sg_laws_eqBoolS, sem_go]
  simp (maxSteps := 10000000) (disch := omega) only [F_laws_eqBoolS, params, EG, EL, simprocAttr, FB, FT, cx_laws_eqBoolS, loop_laws_eqBoolS xs h]
theorem sem_laws_eqKernel (x : DKernel) (h : wtKernel x ≤ 1073741824) : S_laws_eqKernel.sem [.agg (cKernel x), .agg (cKernel x)] = some (.bool true, []) := by
  unfold wtKernel at h
  rw [sg_laws_eqKernel, sem_go]
  simp (maxSteps := 10000000) (disch := omega) only [F_laws_eqKernel, params, EG, EL, simprocAttr, FB, FT, cx_laws_eqKernel, cl_laws_eqGateS, sem_laws_eqGateS, cl_laws_eqIntS, sem_laws_eqIntS, cl_laws_eqCoreS, sem_laws_eqCoreS, cl_laws_eqBoolS, sem_laws_eqBoolS]
theorem sem_laws_eqEvent (x : DEvent) : S_laws_eqEvent.sem [.agg (cEvent x), .agg (cEvent x)] = some (.bool true, []) := by
  skip
  rw [sg_laws_eqEvent, sem_go]
  simp (maxSteps := 10000000) (disch := omega) only [F_laws_eqEvent, params, EG, EL, simprocAttr, FB, FT, cx_laws_eqEvent]
theorem loop_laws_eqEventS (xs : List DEvent) (hl : xs.length ≤ 1073741824) :
    loopV X_laws_eqEventS 0 [0, 1, 5] [(1, []), (0, [4])] B0_laws_eqEventS ⟨[(0, .tree 3 (xs.map cEvent)), (1, .tree 3 (xs.map cEvent)), (5, .int .i64 0)], []⟩ = some (.exit 0, ⟨[], []⟩) := by
  refine loop_list xs (fun _ (_ : Unit) => True) (fun i _ => ⟨[(0, .tree 3 (xs.map cEvent)), (1, .tree 3 (xs.map cEvent)), (5, .int .i64 ((i : Nat) : Int))], []⟩) (fun _ _ => some (.exit 0, ⟨[], []⟩)) ?_ ?_ () trivial
  · intro _ _
    rw [loopV_by B0_laws_eqEventS.eq_1]
    simp only [EG, EL, simprocAttr, int_lt_irrefl]
  · rintro i h x rest _ rfl rfl _ ih
    have hi : (i : Int) < (xs.length : Int) := by omega
    skip
    rw [loopV_by B0_laws_eqEventS.eq_1]
    simp (maxSteps := 10000000) (disch := first | assumption | omega) only [EG, EL, simprocAttr, FB, FT, hi, wrap_succ, getRow _ _ h, cx_laws_eqEventS, cl_laws_eqEvent, sem_laws_eqEvent]
    exact ih () trivial
theorem sem_laws_eqEventS (xs : List DEvent) (h : xs.length ≤ 1073741824) : S_laws_eqEventS.sem [.tree 3 (xs.map cEvent), .tree 3 (xs.map cEvent)] = some (.bool true, []) := by
  rw [sg_laws_eqEventS, sem_go]
  simp (maxSteps := 10000000) (disch := omega) only [F_laws_eqEventS, params, EG, EL, simprocAttr, FB, FT, cx_laws_eqEventS, cl_laws_eqEvent, sem_laws_eqEvent, loop_laws_eqEventS xs h]
theorem sem_laws_eqMachine (x : DMachine) (h : wtMachine x ≤ 1073741824) : S_laws_eqMachine.sem [.agg (cMachine x), .agg (cMachine x)] = some (.bool true, []) := by
  unfold wtMachine at h
  rw [sg_laws_eqMachine, sem_go]
  simp (maxSteps := 10000000) (disch := omega) only [F_laws_eqMachine, params, EG, EL, simprocAttr, FB, FT, cx_laws_eqMachine, cl_laws_eqImage, sem_laws_eqImage, cl_laws_eqIntS, sem_laws_eqIntS, cl_laws_eqCoreS, sem_laws_eqCoreS, cl_laws_eqKernel, sem_laws_eqKernel, cl_laws_eqEventS, sem_laws_eqEventS]
theorem sem_laws_markIntS (xs : List Int) (k : Int) (h1 : 1 ≤ k) (h2 : k + (tot ct1 xs : Nat) ≤ 4611686018427387000) : S_laws_markIntS.sem [.tree 1 (xs.map cI), .int .i64 k] = some (.int .i64 (k + (tot ct1 xs : Nat)), (mkL mkI ct1 xs k).map cI) := by
  have hlen : xs.length ≤ tot ct1 xs := len_ct1
  have loop : loopV X_laws_markIntS 1 [0, 1, 5] [(1, [1])] B0_laws_markIntS ⟨[(0, .sl ⟨0, none, 0⟩ 1 0 xs.length), (1, .int .i64 k), (5, .int .i64 0)], [some ⟨false, 0, 1, xs.map cI⟩]⟩ = some (.exit 0, ⟨[(1, .int .i64 (k + (tot ct1 xs : Nat)))], [some ⟨false, 0, 1, (mkL mkI ct1 xs k).map cI⟩]⟩) := by
    refine loop_list xs (fun i (a : List Int × Int) => a.1.length = i ∧ 1 ≤ a.2 ∧ a.2 + (tot ct1 (xs.drop i) : Nat) ≤ 4611686018427387000) (fun i a => ⟨[(0, .sl ⟨0, none, 0⟩ 1 0 xs.length), (1, .int .i64 a.2), (5, .int .i64 ((i : Nat) : Int))], [some ⟨false, 0, 1, (a.1 ++ xs.drop i).map cI⟩]⟩) (fun rest a => some (.exit 0, ⟨[(1, .int .i64 (a.2 + (tot ct1 rest : Nat)))], [some ⟨false, 0, 1, (a.1 ++ mkL mkI ct1 rest a.2).map cI⟩]⟩)) ?_ ?_ ([], k) ⟨rfl, h1, h2⟩
    · rintro a ⟨hy, a1, a2⟩
      rw [loopV_by B0_laws_markIntS.eq_1]
      simp only [EG, EL, simprocAttr, int_lt_irrefl, List.drop_length, tot, mkL, Int.natCast_zero, Int.add_zero]
    · rintro i h x rest a rfl rfl ⟨hy, a1, a2⟩ ih
      have hi : (i : Int) < (xs.length : Int) := by omega
      have hd : xs.drop i = xs[i] :: xs.drop (i + 1) := List.drop_eq_getElem_cons h
      have ht : tot ct1 (xs.drop i) = ct1 xs[i] + tot ct1 (xs.drop (i + 1)) := by rw [hd]; rfl
      have hc : ct1 xs[i] = 1 := rfl
      have hlm : i < ((a.1 ++ xs.drop i).map cI).length := by rw [mid_len hy h]; exact h
      have hll : i < a.1.length + (xs.drop i).length := by rw [List.length_drop]; omega
      have hg := mid_get (c := cI) hy h
      have hf := mid_set (c := cI) hy h (x := a.2) rfl
      have hk : (a.2 + 1) = a.2 + ((ct1 xs[i] : Nat) : Int) := by rw [hc]; omega
      simp only [cI] at hf
      rw [loopV_by B0_laws_markIntS.eq_1]
      simp (maxSteps := 10000000) (disch := first | assumption | omega) only [EG, EL, simprocAttr, FB, FT, hi, h, hg, hlm, hll, cx_laws_markIntS, wrapI, splice_eq, set_getD, set_set, hf]
      rw [show ((i : Nat) : Int) + 1 = ((i + 1 : Nat) : Int) by omega]
      have hih := ih (a.1 ++ [a.2], (a.2 + 1)) ⟨by simp [hy], by show 1 ≤ (a.2 + 1); omega, by show (a.2 + 1) + _ ≤ _; omega⟩
      simp only [eq_self] at hih
      rw [hih]
      simp only [hk, tot, mkL, List.append_assoc, List.singleton_append]
      rw [show a.2 + ((ct1 xs[i] : Nat) : Int) + ((tot ct1 (xs.drop (i + 1)) : Nat) : Int) = a.2 + ((ct1 xs[i] + tot ct1 (xs.drop (i + 1)) : Nat) : Int) by omega]
      try rfl
  rw [sg_laws_markIntS, sem_goM]
  simp (maxSteps := 10000000) (disch := first | assumption | omega) only [F_laws_markIntS, params, EG, EL, simprocAttr, FB, FT, cx_laws_markIntS, loop]
theorem sem_laws_markCoreS (xs : List DCore) (k : Int) (h1 : 1 ≤ k) (h2 : k + (tot ctCore xs : Nat) ≤ 4611686018427387000) : S_laws_markCoreS.sem [.tree 3 (xs.map cCore), .int .i64 k] = some (.int .i64 (k + (tot ctCore xs : Nat)), (mkL mkCore ctCore xs k).map cCore) := by
  have hlen : xs.length ≤ tot ctCore xs := len_tot fun x => by unfold ctCore; omega
  have loop : loopV X_laws_markCoreS 1 [0, 1, 5] [(1, [1])] B0_laws_markCoreS ⟨[(0, .sl ⟨0, none, 0⟩ 3 0 xs.length), (1, .int .i64 k), (5, .int .i64 0)], [some ⟨false, 0, 3, xs.map cCore⟩]⟩ = some (.exit 0, ⟨[(1, .int .i64 (k + (tot ctCore xs : Nat)))], [some ⟨false, 0, 3, (mkL mkCore ctCore xs k).map cCore⟩]⟩) := by
    refine loop_list xs (fun i (a : List DCore × Int) => a.1.length = i ∧ 1 ≤ a.2 ∧ a.2 + (tot ctCore (xs.drop i) : Nat) ≤ 4611686018427387000) (fun i a => ⟨[(0, .sl ⟨0, none, 0⟩ 3 0 xs.length), (1, .int .i64 a.2), (5, .int .i64 ((i : Nat) : Int))], [some ⟨false, 0, 3, (a.1 ++ xs.drop i).map cCore⟩]⟩) (fun rest a => some (.exit 0, ⟨[(1, .int .i64 (a.2 + (tot ctCore rest : Nat)))], [some ⟨false, 0, 3, (a.1 ++ mkL mkCore ctCore rest a.2).map cCore⟩]⟩)) ?_ ?_ ([], k) ⟨rfl, h1, h2⟩
    · rintro a ⟨hy, a1, a2⟩
      rw [loopV_by B0_laws_markCoreS.eq_1]
      simp only [EG, EL, simprocAttr, int_lt_irrefl, List.drop_length, tot, mkL, Int.natCast_zero, Int.add_zero]
    · rintro i h x rest a rfl rfl ⟨hy, a1, a2⟩ ih
      have hi : (i : Int) < (xs.length : Int) := by omega
      have hd : xs.drop i = xs[i] :: xs.drop (i + 1) := List.drop_eq_getElem_cons h
      have ht : tot ctCore (xs.drop i) = ctCore xs[i] + tot ctCore (xs.drop (i + 1)) := by rw [hd]; rfl
      have hc : ctCore xs[i] = tot ct1 xs[i].Regs + 1 + 1 := rfl
      have hlm : i < ((a.1 ++ xs.drop i).map cCore).length := by rw [mid_len hy h]; exact h
      have hll : i < a.1.length + (xs.drop i).length := by rw [List.length_drop]; omega
      have hg := mid_get (c := cCore) hy h
      have hf := mid_set (c := cCore) hy h (x := (mkCore xs[i] a.2)) rfl
      have hk : (((a.2 + (tot ct1 xs[i].Regs : Nat)) + 1) + 1) = a.2 + ((ctCore xs[i] : Nat) : Int) := by rw [hc]; omega
      simp only [cCore, mkCore] at hf
      rw [loopV_by B0_laws_markCoreS.eq_1]
      simp (maxSteps := 10000000) (disch := first | assumption | omega) only [EG, EL, simprocAttr, FB, FT, hi, h, hg, hlm, hll, cx_laws_markCoreS, cl_laws_markIntS, sem_laws_markIntS, wrapI, splice_eq, set_getD, set_set, hf]
      rw [show ((i : Nat) : Int) + 1 = ((i + 1 : Nat) : Int) by omega]
      have hih := ih (a.1 ++ [(mkCore xs[i] a.2)], (((a.2 + (tot ct1 xs[i].Regs : Nat)) + 1) + 1)) ⟨by simp [hy], by show 1 ≤ (((a.2 + (tot ct1 xs[i].Regs : Nat)) + 1) + 1); omega, by show (((a.2 + (tot ct1 xs[i].Regs : Nat)) + 1) + 1) + _ ≤ _; omega⟩
      simp only [mkCore] at hih
      rw [hih]
      simp only [hk, tot, mkL, List.append_assoc, List.singleton_append]
      rw [show a.2 + ((ctCore xs[i] : Nat) : Int) + ((tot ctCore (xs.drop (i + 1)) : Nat) : Int) = a.2 + ((ctCore xs[i] + tot ctCore (xs.drop (i + 1)) : Nat) : Int) by omega]
      try rfl
  rw [sg_laws_markCoreS, sem_goM]
  simp (maxSteps := 10000000) (disch := first | assumption | omega) only [F_laws_markCoreS, params, EG, EL, simprocAttr, FB, FT, cx_laws_markCoreS, cl_laws_markIntS, sem_laws_markIntS, loop]
theorem sem_laws_markGateS (xs : List DGate) (k : Int) (h1 : 1 ≤ k) (h2 : k + (tot ctGate xs : Nat) ≤ 4611686018427387000) : S_laws_markGateS.sem [.tree 3 (xs.map cGate), .int .i64 k] = some (.int .i64 (k + (tot ctGate xs : Nat)), (mkL mkGate ctGate xs k).map cGate) := by
  have hlen : xs.length ≤ tot ctGate xs := len_tot fun x => by unfold ctGate; omega
  have loop : loopV X_laws_markGateS 1 [0, 1, 5] [(1, [1])] B0_laws_markGateS ⟨[(0, .sl ⟨0, none, 0⟩ 3 0 xs.length), (1, .int .i64 k), (5, .int .i64 0)], [some ⟨false, 0, 3, xs.map cGate⟩]⟩ = some (.exit 0, ⟨[(1, .int .i64 (k + (tot ctGate xs : Nat)))], [some ⟨false, 0, 3, (mkL mkGate ctGate xs k).map cGate⟩]⟩) := by
    refine loop_list xs (fun i (a : List DGate × Int) => a.1.length = i ∧ 1 ≤ a.2 ∧ a.2 + (tot ctGate (xs.drop i) : Nat) ≤ 4611686018427387000) (fun i a => ⟨[(0, .sl ⟨0, none, 0⟩ 3 0 xs.length), (1, .int .i64 a.2), (5, .int .i64 ((i : Nat) : Int))], [some ⟨false, 0, 3, (a.1 ++ xs.drop i).map cGate⟩]⟩) (fun rest a => some (.exit 0, ⟨[(1, .int .i64 (a.2 + (tot ctGate rest : Nat)))], [some ⟨false, 0, 3, (a.1 ++ mkL mkGate ctGate rest a.2).map cGate⟩]⟩)) ?_ ?_ ([], k) ⟨rfl, h1, h2⟩
    · rintro a ⟨hy, a1, a2⟩
      rw [loopV_by B0_laws_markGateS.eq_1]
      simp only [EG, EL, simprocAttr, int_lt_irrefl, List.drop_length, tot, mkL, Int.natCast_zero, Int.add_zero]
    · rintro i h x rest a rfl rfl ⟨hy, a1, a2⟩ ih
      have hi : (i : Int) < (xs.length : Int) := by omega
      have hd : xs.drop i = xs[i] :: xs.drop (i + 1) := List.drop_eq_getElem_cons h
      have ht : tot ctGate (xs.drop i) = ctGate xs[i] + tot ctGate (xs.drop (i + 1)) := by rw [hd]; rfl
      have hc : ctGate xs[i] = 1 + tot ct1 xs[i].Waits + tot ct1 xs[i].Queues := rfl
      have hlm : i < ((a.1 ++ xs.drop i).map cGate).length := by rw [mid_len hy h]; exact h
      have hll : i < a.1.length + (xs.drop i).length := by rw [List.length_drop]; omega
      have hg := mid_get (c := cGate) hy h
      have hf := mid_set (c := cGate) hy h (x := (mkGate xs[i] a.2)) rfl
      have hk : (((a.2 + 1) + (tot ct1 xs[i].Waits : Nat)) + (tot ct1 xs[i].Queues : Nat)) = a.2 + ((ctGate xs[i] : Nat) : Int) := by rw [hc]; omega
      simp only [cGate, mkGate] at hf
      rw [loopV_by B0_laws_markGateS.eq_1]
      simp (maxSteps := 10000000) (disch := first | assumption | omega) only [EG, EL, simprocAttr, FB, FT, hi, h, hg, hlm, hll, cx_laws_markGateS, cl_laws_markIntS, sem_laws_markIntS, wrapI, splice_eq, set_getD, set_set, hf]
      rw [show ((i : Nat) : Int) + 1 = ((i + 1 : Nat) : Int) by omega]
      have hih := ih (a.1 ++ [(mkGate xs[i] a.2)], (((a.2 + 1) + (tot ct1 xs[i].Waits : Nat)) + (tot ct1 xs[i].Queues : Nat))) ⟨by simp [hy], by show 1 ≤ (((a.2 + 1) + (tot ct1 xs[i].Waits : Nat)) + (tot ct1 xs[i].Queues : Nat)); omega, by show (((a.2 + 1) + (tot ct1 xs[i].Waits : Nat)) + (tot ct1 xs[i].Queues : Nat)) + _ ≤ _; omega⟩
      simp only [mkGate] at hih
      rw [hih]
      simp only [hk, tot, mkL, List.append_assoc, List.singleton_append]
      rw [show a.2 + ((ctGate xs[i] : Nat) : Int) + ((tot ctGate (xs.drop (i + 1)) : Nat) : Int) = a.2 + ((ctGate xs[i] + tot ctGate (xs.drop (i + 1)) : Nat) : Int) by omega]
      try rfl
  rw [sg_laws_markGateS, sem_goM]
  simp (maxSteps := 10000000) (disch := first | assumption | omega) only [F_laws_markGateS, params, EG, EL, simprocAttr, FB, FT, cx_laws_markGateS, cl_laws_markIntS, sem_laws_markIntS, loop]
theorem sem_laws_markBoolS (xs : List Bool) (k : Int) (h1 : 1 ≤ k) (h2 : k + (tot ct1 xs : Nat) ≤ 4611686018427387000) : S_laws_markBoolS.sem [.tree 1 (xs.map cB), .int .i64 k] = some (.int .i64 (k + (tot ct1 xs : Nat)), (mkL mkB ct1 xs k).map cB) := by
  have hlen : xs.length ≤ tot ct1 xs := len_ct1
  have loop : loopV X_laws_markBoolS 1 [0, 1, 5] [(1, [1])] B0_laws_markBoolS ⟨[(0, .sl ⟨0, none, 0⟩ 1 0 xs.length), (1, .int .i64 k), (5, .int .i64 0)], [some ⟨false, 0, 1, xs.map cB⟩]⟩ = some (.exit 0, ⟨[(1, .int .i64 (k + (tot ct1 xs : Nat)))], [some ⟨false, 0, 1, (mkL mkB ct1 xs k).map cB⟩]⟩) := by
    refine loop_list xs (fun i (a : List Bool × Int) => a.1.length = i ∧ 1 ≤ a.2 ∧ a.2 + (tot ct1 (xs.drop i) : Nat) ≤ 4611686018427387000) (fun i a => ⟨[(0, .sl ⟨0, none, 0⟩ 1 0 xs.length), (1, .int .i64 a.2), (5, .int .i64 ((i : Nat) : Int))], [some ⟨false, 0, 1, (a.1 ++ xs.drop i).map cB⟩]⟩) (fun rest a => some (.exit 0, ⟨[(1, .int .i64 (a.2 + (tot ct1 rest : Nat)))], [some ⟨false, 0, 1, (a.1 ++ mkL mkB ct1 rest a.2).map cB⟩]⟩)) ?_ ?_ ([], k) ⟨rfl, h1, h2⟩
    · rintro a ⟨hy, a1, a2⟩
      rw [loopV_by B0_laws_markBoolS.eq_1]
      simp only [EG, EL, simprocAttr, int_lt_irrefl, List.drop_length, tot, mkL, Int.natCast_zero, Int.add_zero]
    · rintro i h x rest a rfl rfl ⟨hy, a1, a2⟩ ih
      have hi : (i : Int) < (xs.length : Int) := by omega
      have hd : xs.drop i = xs[i] :: xs.drop (i + 1) := List.drop_eq_getElem_cons h
      have ht : tot ct1 (xs.drop i) = ct1 xs[i] + tot ct1 (xs.drop (i + 1)) := by rw [hd]; rfl
      have hc : ct1 xs[i] = 1 := rfl
      have hlm : i < ((a.1 ++ xs.drop i).map cB).length := by rw [mid_len hy h]; exact h
      have hll : i < a.1.length + (xs.drop i).length := by rw [List.length_drop]; omega
      have hg := mid_get (c := cB) hy h
      have hf := mid_set (c := cB) hy h (x := (decide (Int.tmod a.2 3 = 0))) rfl
      have hk : (a.2 + 1) = a.2 + ((ct1 xs[i] : Nat) : Int) := by rw [hc]; omega
      simp only [cB] at hf
      rw [loopV_by B0_laws_markBoolS.eq_1]
      simp (maxSteps := 10000000) (disch := first | assumption | omega) only [EG, EL, simprocAttr, FB, FT, hi, h, hg, hlm, hll, cx_laws_markBoolS, wrapI, splice_eq, set_getD, set_set, hf]
      rw [show ((i : Nat) : Int) + 1 = ((i + 1 : Nat) : Int) by omega]
      have hih := ih (a.1 ++ [(decide (Int.tmod a.2 3 = 0))], (a.2 + 1)) ⟨by simp [hy], by show 1 ≤ (a.2 + 1); omega, by show (a.2 + 1) + _ ≤ _; omega⟩
      simp only [eq_self] at hih
      rw [hih]
      simp only [hk, tot, mkL, List.append_assoc, List.singleton_append]
      rw [show a.2 + ((ct1 xs[i] : Nat) : Int) + ((tot ct1 (xs.drop (i + 1)) : Nat) : Int) = a.2 + ((ct1 xs[i] + tot ct1 (xs.drop (i + 1)) : Nat) : Int) by omega]
      try rfl
  rw [sg_laws_markBoolS, sem_goM]
  simp (maxSteps := 10000000) (disch := first | assumption | omega) only [F_laws_markBoolS, params, EG, EL, simprocAttr, FB, FT, cx_laws_markBoolS, loop]
theorem sem_laws_markEventS (xs : List DEvent) (k : Int) (h1 : 1 ≤ k) (h2 : k + (tot ctEvent xs : Nat) ≤ 4611686018427387000) : S_laws_markEventS.sem [.tree 3 (xs.map cEvent), .int .i64 k] = some (.int .i64 (k + (tot ctEvent xs : Nat)), (mkL mkEvent ctEvent xs k).map cEvent) := by
  have hlen : xs.length ≤ tot ctEvent xs := len_tot fun x => by unfold ctEvent; omega
  have loop : loopV X_laws_markEventS 1 [0, 1, 5] [(1, [1])] B0_laws_markEventS ⟨[(0, .sl ⟨0, none, 0⟩ 3 0 xs.length), (1, .int .i64 k), (5, .int .i64 0)], [some ⟨false, 0, 3, xs.map cEvent⟩]⟩ = some (.exit 0, ⟨[(1, .int .i64 (k + (tot ctEvent xs : Nat)))], [some ⟨false, 0, 3, (mkL mkEvent ctEvent xs k).map cEvent⟩]⟩) := by
    refine loop_list xs (fun i (a : List DEvent × Int) => a.1.length = i ∧ 1 ≤ a.2 ∧ a.2 + (tot ctEvent (xs.drop i) : Nat) ≤ 4611686018427387000) (fun i a => ⟨[(0, .sl ⟨0, none, 0⟩ 3 0 xs.length), (1, .int .i64 a.2), (5, .int .i64 ((i : Nat) : Int))], [some ⟨false, 0, 3, (a.1 ++ xs.drop i).map cEvent⟩]⟩) (fun rest a => some (.exit 0, ⟨[(1, .int .i64 (a.2 + (tot ctEvent rest : Nat)))], [some ⟨false, 0, 3, (a.1 ++ mkL mkEvent ctEvent rest a.2).map cEvent⟩]⟩)) ?_ ?_ ([], k) ⟨rfl, h1, h2⟩
    · rintro a ⟨hy, a1, a2⟩
      rw [loopV_by B0_laws_markEventS.eq_1]
      simp only [EG, EL, simprocAttr, int_lt_irrefl, List.drop_length, tot, mkL, Int.natCast_zero, Int.add_zero]
    · rintro i h x rest a rfl rfl ⟨hy, a1, a2⟩ ih
      have hi : (i : Int) < (xs.length : Int) := by omega
      have hd : xs.drop i = xs[i] :: xs.drop (i + 1) := List.drop_eq_getElem_cons h
      have ht : tot ctEvent (xs.drop i) = ctEvent xs[i] + tot ctEvent (xs.drop (i + 1)) := by rw [hd]; rfl
      have hc : ctEvent xs[i] = 1 + 1 + 1 := rfl
      have hlm : i < ((a.1 ++ xs.drop i).map cEvent).length := by rw [mid_len hy h]; exact h
      have hll : i < a.1.length + (xs.drop i).length := by rw [List.length_drop]; omega
      have hg := mid_get (c := cEvent) hy h
      have hf := mid_set (c := cEvent) hy h (x := (mkEvent xs[i] a.2)) rfl
      have hk : (((a.2 + 1) + 1) + 1) = a.2 + ((ctEvent xs[i] : Nat) : Int) := by rw [hc]; omega
      simp only [cEvent, mkEvent] at hf
      rw [loopV_by B0_laws_markEventS.eq_1]
      simp (maxSteps := 10000000) (disch := first | assumption | omega) only [EG, EL, simprocAttr, FB, FT, hi, h, hg, hlm, hll, cx_laws_markEventS, wrapI, splice_eq, set_getD, set_set, hf]
      rw [show ((i : Nat) : Int) + 1 = ((i + 1 : Nat) : Int) by omega]
      have hih := ih (a.1 ++ [(mkEvent xs[i] a.2)], (((a.2 + 1) + 1) + 1)) ⟨by simp [hy], by show 1 ≤ (((a.2 + 1) + 1) + 1); omega, by show (((a.2 + 1) + 1) + 1) + _ ≤ _; omega⟩
      simp only [mkEvent] at hih
      rw [hih]
      simp only [hk, tot, mkL, List.append_assoc, List.singleton_append]
      rw [show a.2 + ((ctEvent xs[i] : Nat) : Int) + ((tot ctEvent (xs.drop (i + 1)) : Nat) : Int) = a.2 + ((ctEvent xs[i] + tot ctEvent (xs.drop (i + 1)) : Nat) : Int) by omega]
      try rfl
  rw [sg_laws_markEventS, sem_goM]
  simp (maxSteps := 10000000) (disch := first | assumption | omega) only [F_laws_markEventS, params, EG, EL, simprocAttr, FB, FT, cx_laws_markEventS, loop]
theorem sem_laws_heldIntS (xs : List Int) (k : Int) (h1 : 1 ≤ k) (h2 : k + (tot ct1 xs : Nat) ≤ 4611686018427387000) : S_laws_heldIntS.sem [.tree 1 ((mkL mkI ct1 xs k).map cI), .int .i64 k] = some (.int .i64 (k + (tot ct1 xs : Nat)), []) := by
  have hlen : xs.length ≤ tot ct1 xs := len_ct1
  have hML : (mkL mkI ct1 xs k).length = xs.length := mkL_length
  have loop : loopV X_laws_heldIntS 0 [0, 1, 5] [(1, [1]), (0, [4])] B0_laws_heldIntS ⟨[(0, .tree 1 ((mkL mkI ct1 xs k).map cI)), (1, .int .i64 k), (5, .int .i64 0)], []⟩ = some (Ex.exit 0, (⟨[(1, .int .i64 (k + (tot ct1 xs : Nat)))], []⟩ : St)) := by
    refine loop_list xs (fun i (m : Int) => m = k + (tot ct1 (xs.take i) : Nat)) (fun i m => ⟨[(0, .tree 1 ((mkL mkI ct1 xs k).map cI)), (1, .int .i64 m), (5, .int .i64 ((i : Nat) : Int))], []⟩) (fun rest a => some (Ex.exit 0, (⟨[(1, .int .i64 (k + (tot ct1 xs : Nat)))], []⟩ : St))) ?_ ?_ k (by simp [tot])
    · rintro m rfl
      rw [loopV_by B0_laws_heldIntS.eq_1]
      simp only [EG, EL, simprocAttr, int_lt_irrefl, hML, tot_take_end]
    · rintro i h x rest m rfl rfl hm ih
      have hi : (i : Int) < (xs.length : Int) := by omega
      have ht := tot_take_le (f := ct1) h
      have hs := tot_take1 (f := ct1) h
      have hc : ct1 xs[i] = 1 := rfl
      have hg : ((mkL mkI ct1 xs k).map cI).getD i [] = cI (mkI xs[i] m) := by
        have h' : i < (mkL mkI ct1 xs k).length := by omega
        rw [getRow _ _ h', mkL_get h, hm]
      simp only [cI, mkI] at hg
      rw [loopV_by B0_laws_heldIntS.eq_1]
      simp (maxSteps := 10000000) (disch := first | assumption | omega) only [EG, EL, simprocAttr, FB, FT, hi, hML, hg, cx_laws_heldIntS, wrapI]
      repeat rw [if_neg (by omega)]
      rw [show ((i : Nat) : Int) + 1 = ((i + 1 : Nat) : Int) by omega]
      exact ih _ (by omega)
  rw [sg_laws_heldIntS, sem_go]
  simp (maxSteps := 10000000) (disch := first | assumption | omega) only [F_laws_heldIntS, params, EG, EL, simprocAttr, FB, FT, cx_laws_heldIntS, loop]
theorem sem_laws_heldImage (x : DImage) (k : Int) (h1 : 1 ≤ k) (h2 : k + (cwImage x : Nat) ≤ 4611686018427387000) : S_laws_heldImage.sem [.agg [.tree 1 ((mkL mkI ct1 x.Text k).map cI), .tree 1 ((mkL mkI ct1 x.Starts (k + (tot ct1 x.Text : Nat))).map cI), .int .i64 x.Size], .int .i64 k] = some (.int .i64 ((k + (tot ct1 x.Text : Nat)) + (tot ct1 x.Starts : Nat)), []) := by
  show S_laws_heldImage.sem [.agg (cImage (mwImage x k)), .int .i64 k] = some (.int .i64 ((k + (tot ct1 x.Text : Nat)) + (tot ct1 x.Starts : Nat)), [])
  have hc : cwImage x = tot ct1 x.Text + tot ct1 x.Starts := rfl
  rw [sg_laws_heldImage, sem_go]
  simp (maxSteps := 10000000) (disch := first | assumption | omega) only [F_laws_heldImage, params, EG, EL, simprocAttr, FB, FT, cx_laws_heldImage, cl_laws_heldIntS, sem_laws_heldIntS, mwImage]
  repeat rw [if_neg (by omega)]
theorem sem_laws_heldCoreS (xs : List DCore) (k : Int) (h1 : 1 ≤ k) (h2 : k + (tot ctCore xs : Nat) ≤ 4611686018427387000) : S_laws_heldCoreS.sem [.tree 3 ((mkL mkCore ctCore xs k).map cCore), .int .i64 k] = some (.int .i64 (k + (tot ctCore xs : Nat)), []) := by
  have hlen : xs.length ≤ tot ctCore xs := len_tot fun x => by unfold ctCore; omega
  have hML : (mkL mkCore ctCore xs k).length = xs.length := mkL_length
  have loop : loopV X_laws_heldCoreS 0 [0, 1, 5] [(1, [1]), (0, [4])] B0_laws_heldCoreS ⟨[(0, .tree 3 ((mkL mkCore ctCore xs k).map cCore)), (1, .int .i64 k), (5, .int .i64 0)], []⟩ = some (Ex.exit 0, (⟨[(1, .int .i64 (k + (tot ctCore xs : Nat)))], []⟩ : St)) := by
    refine loop_list xs (fun i (m : Int) => m = k + (tot ctCore (xs.take i) : Nat)) (fun i m => ⟨[(0, .tree 3 ((mkL mkCore ctCore xs k).map cCore)), (1, .int .i64 m), (5, .int .i64 ((i : Nat) : Int))], []⟩) (fun rest a => some (Ex.exit 0, (⟨[(1, .int .i64 (k + (tot ctCore xs : Nat)))], []⟩ : St))) ?_ ?_ k (by simp [tot])
    · rintro m rfl
      rw [loopV_by B0_laws_heldCoreS.eq_1]
      simp only [EG, EL, simprocAttr, int_lt_irrefl, hML, tot_take_end]
    · rintro i h x rest m rfl rfl hm ih
      have hi : (i : Int) < (xs.length : Int) := by omega
      have ht := tot_take_le (f := ctCore) h
      have hs := tot_take1 (f := ctCore) h
      have hc : ctCore xs[i] = tot ct1 xs[i].Regs + 1 + 1 := rfl
      have hg : ((mkL mkCore ctCore xs k).map cCore).getD i [] = cCore (mkCore xs[i] m) := by
        have h' : i < (mkL mkCore ctCore xs k).length := by omega
        rw [getRow _ _ h', mkL_get h, hm]
      simp only [cCore, mkCore] at hg
      rw [loopV_by B0_laws_heldCoreS.eq_1]
      simp (maxSteps := 10000000) (disch := first | assumption | omega) only [EG, EL, simprocAttr, FB, FT, hi, hML, hg, cx_laws_heldCoreS, cl_laws_heldIntS, sem_laws_heldIntS, wrapI]
      repeat rw [if_neg (by omega)]
      rw [show ((i : Nat) : Int) + 1 = ((i + 1 : Nat) : Int) by omega]
      exact ih _ (by omega)
  rw [sg_laws_heldCoreS, sem_go]
  simp (maxSteps := 10000000) (disch := first | assumption | omega) only [F_laws_heldCoreS, params, EG, EL, simprocAttr, FB, FT, cx_laws_heldCoreS, cl_laws_heldIntS, sem_laws_heldIntS, loop]
theorem sem_laws_heldGateS (xs : List DGate) (k : Int) (h1 : 1 ≤ k) (h2 : k + (tot ctGate xs : Nat) ≤ 4611686018427387000) : S_laws_heldGateS.sem [.tree 3 ((mkL mkGate ctGate xs k).map cGate), .int .i64 k] = some (.int .i64 (k + (tot ctGate xs : Nat)), []) := by
  have hlen : xs.length ≤ tot ctGate xs := len_tot fun x => by unfold ctGate; omega
  have hML : (mkL mkGate ctGate xs k).length = xs.length := mkL_length
  have loop : loopV X_laws_heldGateS 0 [0, 1, 5] [(1, [1]), (0, [4])] B0_laws_heldGateS ⟨[(0, .tree 3 ((mkL mkGate ctGate xs k).map cGate)), (1, .int .i64 k), (5, .int .i64 0)], []⟩ = some (Ex.exit 0, (⟨[(1, .int .i64 (k + (tot ctGate xs : Nat)))], []⟩ : St)) := by
    refine loop_list xs (fun i (m : Int) => m = k + (tot ctGate (xs.take i) : Nat)) (fun i m => ⟨[(0, .tree 3 ((mkL mkGate ctGate xs k).map cGate)), (1, .int .i64 m), (5, .int .i64 ((i : Nat) : Int))], []⟩) (fun rest a => some (Ex.exit 0, (⟨[(1, .int .i64 (k + (tot ctGate xs : Nat)))], []⟩ : St))) ?_ ?_ k (by simp [tot])
    · rintro m rfl
      rw [loopV_by B0_laws_heldGateS.eq_1]
      simp only [EG, EL, simprocAttr, int_lt_irrefl, hML, tot_take_end]
    · rintro i h x rest m rfl rfl hm ih
      have hi : (i : Int) < (xs.length : Int) := by omega
      have ht := tot_take_le (f := ctGate) h
      have hs := tot_take1 (f := ctGate) h
      have hc : ctGate xs[i] = 1 + tot ct1 xs[i].Waits + tot ct1 xs[i].Queues := rfl
      have hg : ((mkL mkGate ctGate xs k).map cGate).getD i [] = cGate (mkGate xs[i] m) := by
        have h' : i < (mkL mkGate ctGate xs k).length := by omega
        rw [getRow _ _ h', mkL_get h, hm]
      simp only [cGate, mkGate] at hg
      rw [loopV_by B0_laws_heldGateS.eq_1]
      simp (maxSteps := 10000000) (disch := first | assumption | omega) only [EG, EL, simprocAttr, FB, FT, hi, hML, hg, cx_laws_heldGateS, cl_laws_heldIntS, sem_laws_heldIntS, wrapI]
      repeat rw [if_neg (by omega)]
      rw [show ((i : Nat) : Int) + 1 = ((i + 1 : Nat) : Int) by omega]
      exact ih _ (by omega)
  rw [sg_laws_heldGateS, sem_go]
  simp (maxSteps := 10000000) (disch := first | assumption | omega) only [F_laws_heldGateS, params, EG, EL, simprocAttr, FB, FT, cx_laws_heldGateS, cl_laws_heldIntS, sem_laws_heldIntS, loop]
theorem sem_laws_heldBoolS (xs : List Bool) (k : Int) (h1 : 1 ≤ k) (h2 : k + (tot ct1 xs : Nat) ≤ 4611686018427387000) : S_laws_heldBoolS.sem [.tree 1 ((mkL mkB ct1 xs k).map cB), .int .i64 k] = some (.int .i64 (k + (tot ct1 xs : Nat)), []) := by
  have hlen : xs.length ≤ tot ct1 xs := len_ct1
  have hML : (mkL mkB ct1 xs k).length = xs.length := mkL_length
  have loop : loopV X_laws_heldBoolS 0 [0, 1, 5] [(1, [1]), (0, [4])] B0_laws_heldBoolS ⟨[(0, .tree 1 ((mkL mkB ct1 xs k).map cB)), (1, .int .i64 k), (5, .int .i64 0)], []⟩ = some (Ex.exit 0, (⟨[(1, .int .i64 (k + (tot ct1 xs : Nat)))], []⟩ : St)) := by
    refine loop_list xs (fun i (m : Int) => m = k + (tot ct1 (xs.take i) : Nat)) (fun i m => ⟨[(0, .tree 1 ((mkL mkB ct1 xs k).map cB)), (1, .int .i64 m), (5, .int .i64 ((i : Nat) : Int))], []⟩) (fun rest a => some (Ex.exit 0, (⟨[(1, .int .i64 (k + (tot ct1 xs : Nat)))], []⟩ : St))) ?_ ?_ k (by simp [tot])
    · rintro m rfl
      rw [loopV_by B0_laws_heldBoolS.eq_1]
      simp only [EG, EL, simprocAttr, int_lt_irrefl, hML, tot_take_end]
    · rintro i h x rest m rfl rfl hm ih
      have hi : (i : Int) < (xs.length : Int) := by omega
      have ht := tot_take_le (f := ct1) h
      have hs := tot_take1 (f := ct1) h
      have hc : ct1 xs[i] = 1 := rfl
      have hg : ((mkL mkB ct1 xs k).map cB).getD i [] = cB (mkB xs[i] m) := by
        have h' : i < (mkL mkB ct1 xs k).length := by omega
        rw [getRow _ _ h', mkL_get h, hm]
      simp only [cB, mkB] at hg
      rw [loopV_by B0_laws_heldBoolS.eq_1]
      simp (maxSteps := 10000000) (disch := first | assumption | omega) only [EG, EL, simprocAttr, FB, FT, hi, hML, hg, cx_laws_heldBoolS, wrapI]
      repeat rw [if_neg (by omega)]
      rw [show ((i : Nat) : Int) + 1 = ((i + 1 : Nat) : Int) by omega]
      exact ih _ (by omega)
  rw [sg_laws_heldBoolS, sem_go]
  simp (maxSteps := 10000000) (disch := first | assumption | omega) only [F_laws_heldBoolS, params, EG, EL, simprocAttr, FB, FT, cx_laws_heldBoolS, loop]
theorem sem_laws_heldKernel (x : DKernel) (k : Int) (h1 : 1 ≤ k) (h2 : k + (cwKernel x : Nat) ≤ 4611686018427387000) : S_laws_heldKernel.sem [.agg [.tree 3 ((mkL mkGate ctGate x.Gates k).map cGate), .tree 1 ((mkL mkI ct1 x.Ready (k + (tot ctGate x.Gates : Nat))).map cI), .tree 3 ((mkL mkCore ctCore x.Saved ((k + (tot ctGate x.Gates : Nat)) + (tot ct1 x.Ready : Nat))).map cCore), .tree 1 ((mkL mkB ct1 x.Over (((k + (tot ctGate x.Gates : Nat)) + (tot ct1 x.Ready : Nat)) + (tot ctCore x.Saved : Nat))).map cB)], .int .i64 k] = some (.int .i64 ((((k + (tot ctGate x.Gates : Nat)) + (tot ct1 x.Ready : Nat)) + (tot ctCore x.Saved : Nat)) + (tot ct1 x.Over : Nat)), []) := by
  show S_laws_heldKernel.sem [.agg (cKernel (mwKernel x k)), .int .i64 k] = some (.int .i64 ((((k + (tot ctGate x.Gates : Nat)) + (tot ct1 x.Ready : Nat)) + (tot ctCore x.Saved : Nat)) + (tot ct1 x.Over : Nat)), [])
  have hc : cwKernel x = tot ctGate x.Gates + tot ct1 x.Ready + tot ctCore x.Saved + tot ct1 x.Over := rfl
  rw [sg_laws_heldKernel, sem_go]
  simp (maxSteps := 10000000) (disch := first | assumption | omega) only [F_laws_heldKernel, params, EG, EL, simprocAttr, FB, FT, cx_laws_heldKernel, cl_laws_heldGateS, sem_laws_heldGateS, cl_laws_heldIntS, sem_laws_heldIntS, cl_laws_heldCoreS, sem_laws_heldCoreS, cl_laws_heldBoolS, sem_laws_heldBoolS, mwKernel, mwGate, mwCore]
  repeat rw [if_neg (by omega)]
theorem sem_laws_heldEventS (xs : List DEvent) (k : Int) (h1 : 1 ≤ k) (h2 : k + (tot ctEvent xs : Nat) ≤ 4611686018427387000) : S_laws_heldEventS.sem [.tree 3 ((mkL mkEvent ctEvent xs k).map cEvent), .int .i64 k] = some (.int .i64 (k + (tot ctEvent xs : Nat)), []) := by
  have hlen : xs.length ≤ tot ctEvent xs := len_tot fun x => by unfold ctEvent; omega
  have hML : (mkL mkEvent ctEvent xs k).length = xs.length := mkL_length
  have loop : loopV X_laws_heldEventS 0 [0, 1, 5] [(1, [1]), (0, [4])] B0_laws_heldEventS ⟨[(0, .tree 3 ((mkL mkEvent ctEvent xs k).map cEvent)), (1, .int .i64 k), (5, .int .i64 0)], []⟩ = some (Ex.exit 0, (⟨[(1, .int .i64 (k + (tot ctEvent xs : Nat)))], []⟩ : St)) := by
    refine loop_list xs (fun i (m : Int) => m = k + (tot ctEvent (xs.take i) : Nat)) (fun i m => ⟨[(0, .tree 3 ((mkL mkEvent ctEvent xs k).map cEvent)), (1, .int .i64 m), (5, .int .i64 ((i : Nat) : Int))], []⟩) (fun rest a => some (Ex.exit 0, (⟨[(1, .int .i64 (k + (tot ctEvent xs : Nat)))], []⟩ : St))) ?_ ?_ k (by simp [tot])
    · rintro m rfl
      rw [loopV_by B0_laws_heldEventS.eq_1]
      simp only [EG, EL, simprocAttr, int_lt_irrefl, hML, tot_take_end]
    · rintro i h x rest m rfl rfl hm ih
      have hi : (i : Int) < (xs.length : Int) := by omega
      have ht := tot_take_le (f := ctEvent) h
      have hs := tot_take1 (f := ctEvent) h
      have hc : ctEvent xs[i] = 1 + 1 + 1 := rfl
      have hg : ((mkL mkEvent ctEvent xs k).map cEvent).getD i [] = cEvent (mkEvent xs[i] m) := by
        have h' : i < (mkL mkEvent ctEvent xs k).length := by omega
        rw [getRow _ _ h', mkL_get h, hm]
      simp only [cEvent, mkEvent] at hg
      rw [loopV_by B0_laws_heldEventS.eq_1]
      simp (maxSteps := 10000000) (disch := first | assumption | omega) only [EG, EL, simprocAttr, FB, FT, hi, hML, hg, cx_laws_heldEventS, wrapI]
      repeat rw [if_neg (by omega)]
      rw [show ((i : Nat) : Int) + 1 = ((i + 1 : Nat) : Int) by omega]
      exact ih _ (by omega)
  rw [sg_laws_heldEventS, sem_go]
  simp (maxSteps := 10000000) (disch := first | assumption | omega) only [F_laws_heldEventS, params, EG, EL, simprocAttr, FB, FT, cx_laws_heldEventS, loop]
theorem sem_laws_heldMachine (x : DMachine) (k : Int) (h1 : 1 ≤ k) (h2 : k + (cwMachine x : Nat) ≤ 4611686018427387000) : S_laws_heldMachine.sem [.agg [.tree 1 ((mkL mkI ct1 x.Image.Text k).map cI), .tree 1 ((mkL mkI ct1 x.Image.Starts (k + (tot ct1 x.Image.Text : Nat))).map cI), .int .i64 x.Image.Size, .tree 1 ((mkL mkI ct1 x.Mem ((k + (tot ct1 x.Image.Text : Nat)) + (tot ct1 x.Image.Starts : Nat))).map cI), .tree 3 ((mkL mkCore ctCore x.Cores (((k + (tot ct1 x.Image.Text : Nat)) + (tot ct1 x.Image.Starts : Nat)) + (tot ct1 x.Mem : Nat))).map cCore), .tree 3 ((mkL mkGate ctGate x.Kernel.Gates ((((k + (tot ct1 x.Image.Text : Nat)) + (tot ct1 x.Image.Starts : Nat)) + (tot ct1 x.Mem : Nat)) + (tot ctCore x.Cores : Nat))).map cGate), .tree 1 ((mkL mkI ct1 x.Kernel.Ready (((((k + (tot ct1 x.Image.Text : Nat)) + (tot ct1 x.Image.Starts : Nat)) + (tot ct1 x.Mem : Nat)) + (tot ctCore x.Cores : Nat)) + (tot ctGate x.Kernel.Gates : Nat))).map cI), .tree 3 ((mkL mkCore ctCore x.Kernel.Saved ((((((k + (tot ct1 x.Image.Text : Nat)) + (tot ct1 x.Image.Starts : Nat)) + (tot ct1 x.Mem : Nat)) + (tot ctCore x.Cores : Nat)) + (tot ctGate x.Kernel.Gates : Nat)) + (tot ct1 x.Kernel.Ready : Nat))).map cCore), .tree 1 ((mkL mkB ct1 x.Kernel.Over (((((((k + (tot ct1 x.Image.Text : Nat)) + (tot ct1 x.Image.Starts : Nat)) + (tot ct1 x.Mem : Nat)) + (tot ctCore x.Cores : Nat)) + (tot ctGate x.Kernel.Gates : Nat)) + (tot ct1 x.Kernel.Ready : Nat)) + (tot ctCore x.Kernel.Saved : Nat))).map cB), .tree 1 ((mkL mkI ct1 x.Input ((((((((k + (tot ct1 x.Image.Text : Nat)) + (tot ct1 x.Image.Starts : Nat)) + (tot ct1 x.Mem : Nat)) + (tot ctCore x.Cores : Nat)) + (tot ctGate x.Kernel.Gates : Nat)) + (tot ct1 x.Kernel.Ready : Nat)) + (tot ctCore x.Kernel.Saved : Nat)) + (tot ct1 x.Kernel.Over : Nat))).map cI), .tree 3 ((mkL mkEvent ctEvent x.Events (((((((((k + (tot ct1 x.Image.Text : Nat)) + (tot ct1 x.Image.Starts : Nat)) + (tot ct1 x.Mem : Nat)) + (tot ctCore x.Cores : Nat)) + (tot ctGate x.Kernel.Gates : Nat)) + (tot ct1 x.Kernel.Ready : Nat)) + (tot ctCore x.Kernel.Saved : Nat)) + (tot ct1 x.Kernel.Over : Nat)) + (tot ct1 x.Input : Nat))).map cEvent), .bool x.Stopped], .int .i64 k] = some (.int .i64 ((((((((((k + (tot ct1 x.Image.Text : Nat)) + (tot ct1 x.Image.Starts : Nat)) + (tot ct1 x.Mem : Nat)) + (tot ctCore x.Cores : Nat)) + (tot ctGate x.Kernel.Gates : Nat)) + (tot ct1 x.Kernel.Ready : Nat)) + (tot ctCore x.Kernel.Saved : Nat)) + (tot ct1 x.Kernel.Over : Nat)) + (tot ct1 x.Input : Nat)) + (tot ctEvent x.Events : Nat)), []) := by
  show S_laws_heldMachine.sem [.agg (cMachine (mwMachine x k)), .int .i64 k] = some (.int .i64 ((((((((((k + (tot ct1 x.Image.Text : Nat)) + (tot ct1 x.Image.Starts : Nat)) + (tot ct1 x.Mem : Nat)) + (tot ctCore x.Cores : Nat)) + (tot ctGate x.Kernel.Gates : Nat)) + (tot ct1 x.Kernel.Ready : Nat)) + (tot ctCore x.Kernel.Saved : Nat)) + (tot ct1 x.Kernel.Over : Nat)) + (tot ct1 x.Input : Nat)) + (tot ctEvent x.Events : Nat)), [])
  have hc : cwMachine x = tot ct1 x.Image.Text + tot ct1 x.Image.Starts + tot ct1 x.Mem + tot ctCore x.Cores + tot ctGate x.Kernel.Gates + tot ct1 x.Kernel.Ready + tot ctCore x.Kernel.Saved + tot ct1 x.Kernel.Over + tot ct1 x.Input + tot ctEvent x.Events := rfl
  have hc0 : cwImage x.Image = tot ct1 x.Image.Text + tot ct1 x.Image.Starts := rfl
  have hc3 : cwKernel x.Kernel = tot ctGate x.Kernel.Gates + tot ct1 x.Kernel.Ready + tot ctCore x.Kernel.Saved + tot ct1 x.Kernel.Over := rfl
  rw [sg_laws_heldMachine, sem_go]
  simp (maxSteps := 10000000) (disch := first | assumption | omega) only [F_laws_heldMachine, params, EG, EL, simprocAttr, FB, FT, cx_laws_heldMachine, cl_laws_heldImage, sem_laws_heldImage, cl_laws_heldIntS, sem_laws_heldIntS, cl_laws_heldCoreS, sem_laws_heldCoreS, cl_laws_heldKernel, sem_laws_heldKernel, cl_laws_heldEventS, sem_laws_heldEventS, mwMachine, mwImage, mwCore, mwGate, mwKernel]
  repeat rw [if_neg (by omega)]
/-! gates -/
/-- In line, each in 0 .. 3 and none of those seen. -/
def freshB (seen : List Int) : List Int → Bool
  | [] => true
  | x :: xs => decide (0 ≤ x ∧ x ≤ 3) && (decide (x ∉ seen) && freshB (seen ++ [x]) xs)
def qfreshB (seen : List Int) : List Int → Bool
  | [] => true
  | x :: xs => if x = -1 then qfreshB (seen ++ [x]) xs else decide (0 ≤ x ∧ x ≤ 3) && (decide (x ∉ seen) && qfreshB (seen ++ [x]) xs)
def somebody (xs : List Int) : List Int := xs.filter (fun x => decide (x ≠ -1))
theorem freshB_app : ∀ (xs ys seen : List Int), freshB seen (xs ++ ys) = (freshB seen xs && freshB (seen ++ xs) ys)
  | [], ys, seen => by simp [freshB]
  | x :: xs, ys, seen => by
    simp only [List.cons_append, freshB, freshB_app xs ys (seen ++ [x]), List.append_assoc, List.singleton_append, List.nil_append, Bool.and_assoc]
theorem freshB_mem : ∀ (xs seen : List Int), freshB seen xs = true → ∀ x ∈ xs, 0 ≤ x ∧ x ≤ 3
  | [], _, _, x, hx => by simp at hx
  | y :: ys, seen, h, x, hx => by
    unfold freshB at h
    simp only [Bool.and_eq_true, decide_eq_true_eq] at h
    rcases List.mem_cons.1 hx with rfl | hx
    · exact h.1
    · exact freshB_mem ys _ h.2.2 x hx
theorem qfreshB_eq : ∀ (xs seen : List Int), qfreshB seen xs = freshB (somebody seen) (somebody xs)
  | [], seen => rfl
  | x :: xs, seen => by
    unfold qfreshB
    rw [qfreshB_eq xs (seen ++ [x])]
    by_cases h : x = -1
    · subst h
      simp [somebody]
    · have hm : x ∈ somebody seen ↔ x ∈ seen := by simp [somebody, h]
      rw [if_neg h]
      have e : somebody (x :: xs) = x :: somebody xs := by simp [somebody, h]
      rw [e]
      have e2 : somebody (seen ++ [x]) = somebody seen ++ [x] := by simp [somebody, h]
      rw [e2]
      conv => rhs; unfold freshB
      simp only [hm]
/-- A right gate. -/
def gateOk (owner : Int) (waits queues : List Int) : Bool :=
  decide (queues.length ≤ 2) && (freshB [] ((if owner = -1 then [] else [owner]) ++ waits ++ somebody queues) && decide (owner ≠ -1 ∨ waits.length = 0))
theorem gateOk_low {owner : Int} {waits queues : List Int} (h : ¬ (-1 ≤ owner ∧ owner ≤ 3)) : gateOk owner waits queues = false := by
  unfold gateOk
  rw [if_neg (by omega)]
  simp only [List.cons_append, List.nil_append]
  unfold freshB
  have : ¬ (0 ≤ owner ∧ owner ≤ 3) := by omega
  simp [this]
def inGate (owner : Int) (waits queues : List Int) : List Int := (if owner = -1 then [] else [owner]) ++ waits ++ somebody queues
theorem inGate_len (owner : Int) (waits queues : List Int) : (inGate owner waits queues).length ≤ 1 + waits.length + queues.length := by
  unfold inGate somebody
  have := List.length_filter_le (fun x : Int => decide (x ≠ -1)) queues
  rw [List.length_append, List.length_append]
  split <;> simp only [List.length_nil, List.length_cons] <;> omega
/-- How the reference tells a right gate. -/
theorem gateOk_spec (owner : Int) (waits queues : List Int) : gateOk owner waits queues = (decide (-1 ≤ owner ∧ owner ≤ 3) && (decide (queues.length ≤ 2) && (!(decide (owner < 0) && decide (0 < waits.length)) && (freshB (if 0 ≤ owner then [owner] else []) waits && qfreshB ((if 0 ≤ owner then [owner] else []) ++ waits) queues)))) := by
  by_cases h1 : -1 ≤ owner ∧ owner ≤ 3
  · by_cases h3 : owner < 0
    · have ho : owner = -1 := by omega
      subst ho
      by_cases h4 : waits = []
      · subst h4
        rw [qfreshB_eq]
        simp [gateOk, freshB, somebody]
      · have : ¬ waits.length = 0 := by simpa using h4
        simp [gateOk, h4, List.length_pos_iff]
    · have ho : ¬ owner = -1 := by omega
      have ho2 : 0 ≤ owner ∧ owner ≤ 3 := by omega
      rw [if_pos ho2.1, qfreshB_eq]
      unfold gateOk
      rw [if_neg ho, freshB_app ([owner] ++ waits), freshB_app [owner]]
      have e1 : freshB [] [owner] = true := by simp [freshB, ho2]
      rw [e1]
      simp only [h1, h3, and_self, decide_true, decide_false, Bool.true_and, List.nil_append, ho, not_false_eq_true, true_or, ne_eq, Bool.and_true, Bool.false_and, Bool.not_false]
      cases hf : freshB [owner] waits with
      | false => simp
      | true =>
        have hm := freshB_mem _ _ hf
        have e2 : somebody ([owner] ++ waits) = [owner] ++ waits := by
          unfold somebody
          rw [List.filter_eq_self]
          intro x hx
          rcases List.mem_append.1 hx with hx | hx
          · have := List.mem_singleton.1 hx
            exact decide_eq_true (by omega)
          · have := hm x hx
            exact decide_eq_true (by omega)
        rw [e2]
  · rw [gateOk_low h1]
    simp [h1]
theorem map_cI_snoc {xs : List Int} {y : Int} : xs.map cI ++ [[.int .i64 y]] = (xs ++ [y]).map cI := by simp
theorem map_cI_app {xs ys : List Int} : xs.map cI ++ ys.map cI = (xs ++ ys).map cI := by simp
theorem map_cI_one {y : Int} : [[AV.int .i64 y]] = [y].map cI := rfl
/-- A loop that goes on, or gives false. -/
def okR (b : Bool) (e : Nat) (s : St) (t : Nat) : Option (Ex × St) := if b = true then some (.exit e, s) else some (.ret, ⟨[(t, .bool false)], []⟩)
theorem okR_true {e t : Nat} {s : St} : okR true e s t = some (.exit e, s) := rfl
theorem okR_false {e t : Nat} {s : St} : okR false e s t = some (.ret, ⟨[(t, .bool false)], []⟩) := rfl
theorem goE_okR {ctx : Ctx} {base : Nat} {b : Bool} {e t : Nat} {s : St} {K : List Fr} : goE ctx base (okR b e s t) K = if b = true then unw ctx base K (.exit e) s else unw ctx base K .ret ⟨[(t, .bool false)], []⟩ := by
  unfold okR; split <;> rfl
theorem mem_fIx {xs : List Int} {x : Int} : ∀ {i : Nat}, (0 ≤ fIx (fun y => decide (x = y)) xs i) = (x ∈ xs) := by
  induction xs with
  | nil => intro i; simp [fIx]
  | cons y ys ih =>
    intro i
    by_cases h : x = y
    · subst h; simp [fIx]
    · simp only [fIx, h, decide_false, Bool.false_eq_true, if_false, ih, List.mem_cons, false_or]
theorem sem_spec_l01In (a lo hi : Int) : S_spec_l01In.sem [.int .i64 a, .int .i64 lo, .int .i64 hi] = some (.bool (decide (lo ≤ a ∧ a ≤ hi)), []) := by
  rw [sg_spec_l01In, sem_go]
  simp (maxSteps := 10000000) (disch := first | assumption | omega) only [F_spec_l01In, params, EG, EL, simprocAttr, FB, cx_spec_l01In]
  by_cases h1 : lo ≤ a <;> by_cases h2 : a ≤ hi <;> simp [h1, h2]
theorem sem_impl_within (a lo hi : Int) : S_impl_within.sem [.int .i64 a, .int .i64 lo, .int .i64 hi] = some (.bool (decide (lo ≤ a ∧ a ≤ hi)), []) := by
  rw [sg_impl_within, sem_go]
  simp (maxSteps := 10000000) (disch := first | assumption | omega) only [F_impl_within, params, EG, EL, simprocAttr, FB, cx_impl_within]
  by_cases h1 : lo ≤ a <;> by_cases h2 : a ≤ hi <;> simp [h1, h2]
theorem sem_spec_l12In (xs : List Int) (x : Int) (hl : xs.length ≤ 140737488351232) : S_spec_l12In.sem [.tree 1 (xs.map cI), .int .i64 x] = some (.bool (decide (x ∈ xs)), []) := by
  have loop : loopV X_spec_l12In 0 [0, 1, 5] [(1, []), (0, [4])] B0_spec_l12In ⟨[(0, .tree 1 (xs.map cI)), (1, .int .i64 x), (5, .int .i64 0)], []⟩ = if x ∈ xs then some (.ret, ⟨[(4, .bool true)], []⟩) else some (.exit 0, ⟨[], []⟩) := by
    refine loop_list xs (fun _ (_ : Unit) => True) (fun i _ => ⟨[(0, .tree 1 (xs.map cI)), (1, .int .i64 x), (5, .int .i64 (i : Int))], []⟩) (fun rest _ => if x ∈ rest then some (.ret, ⟨[(4, .bool true)], []⟩) else some (.exit 0, ⟨[], []⟩)) ?_ ?_ () trivial
    · intro _ _
      rw [loopV_by B0_spec_l12In.eq_1]
      simp only [EG, EL, simprocAttr, FB, int_lt_irrefl, List.not_mem_nil]
    · rintro i h y rest _ rfl rfl _ ih
      have hi : (i : Int) < (xs.length : Int) := by omega
      rw [loopV_by B0_spec_l12In.eq_1]
      simp (maxSteps := 10000000) (disch := first | assumption | omega) only [EG, EL, simprocAttr, FB, hi, wrap_succ, getRow _ _ h, ih () trivial]
      by_cases h1 : xs[i] = x
      · simp [h1]
      · have h1' : ¬ x = xs[i] := fun e => h1 e.symm
        simp only [h1, h1', if_false, List.mem_cons, false_or]
  rw [sg_spec_l12In, sem_go]
  simp (maxSteps := 10000000) (disch := first | assumption | omega) only [F_spec_l12In, params, EG, EL, simprocAttr, FB, loop]
  by_cases h : x ∈ xs <;> simp only [h, EG, EL, simprocAttr, FB, decide_true, decide_false]
theorem sem_slices_Index_int_int (xs : List Int) (x : Int) (hl : xs.length ≤ 140737488351232) : S_slices_Index_int_int.sem [.tree 1 (xs.map cI), .int .i64 x] = some (.int .i64 (fIx (fun y => decide (x = y)) xs 0), []) := by
  have loop : loopV X_slices_Index_int_int 0 [0, 1, 7, 8] [(1, []), (0, [4])] B0_slices_Index_int_int ⟨[(0, .tree 1 (xs.map cI)), (1, .int .i64 x), (7, .int .i64 xs.length), (8, .int .i64 0)], []⟩ = fixR 4 (fIx (fun y => decide (x = y)) xs 0) := by
    refine loop_list xs (fun i a => a = i) (fun i a => ⟨[(0, .tree 1 (xs.map cI)), (1, .int .i64 x), (7, .int .i64 xs.length), (8, .int .i64 (i : Int))], []⟩) (fun rest a => fixR 4 (fIx (fun y => decide (x = y)) rest a)) ?_ ?_ 0 rfl
    · rintro a rfl
      rw [loopV_by B0_slices_Index_int_int.eq_1]
      simp only [EG, EL, simprocAttr, FB, int_lt_irrefl]
      exact fixR_nil
    · rintro i h y rest a rfl rfl rfl ih
      have hi : (a : Int) < (xs.length : Int) := by omega
      rw [loopV_by B0_slices_Index_int_int.eq_1]
      simp (maxSteps := 10000000) (disch := first | assumption | omega) only [EG, EL, simprocAttr, FB, hi, wrap_succ, getRow _ _ h, ih _ rfl]
      by_cases h1 : x = xs[a] <;> simp only [h1, if_true, if_false]
      · exact fixR_yes (by simp)
      · exact fixR_no (by simp [h1])
  rw [sg_slices_Index_int_int, sem_go]
  simp (maxSteps := 10000000) (disch := first | assumption | omega) only [F_slices_Index_int_int, params, EG, EL, simprocAttr, FB, loop, goE_fixR]
  rcases @fIx_ge _ (fun y => decide (x = y)) xs 0 with h | h
  · simp [h]
  · rw [if_neg (by omega)]
theorem sem_slices_Contains_int_int (xs : List Int) (x : Int) (hl : xs.length ≤ 140737488351232) : S_slices_Contains_int_int.sem [.tree 1 (xs.map cI), .int .i64 x] = some (.bool (decide (x ∈ xs)), []) := by
  rw [sg_slices_Contains_int_int, sem_go]
  simp (maxSteps := 10000000) (disch := first | assumption | omega) only [F_slices_Contains_int_int, params, EG, EL, simprocAttr, FB, cx_slices_Contains_int_int, cl_slices_Index_int_int, sem_slices_Index_int_int, mem_fIx]
theorem sem_spec_l12Copy (x : DGate) (h : x.Waits.length + x.Queues.length ≤ 1099511627776) : S_spec_l12Copy.sem [.agg (cGate x)] = some (.agg (cGate x), []) := by
  have h1 : x.Waits.length * 8 ≤ 70368744177664 := by omega
  have h2 : x.Queues.length * 8 ≤ 70368744177664 := by omega
  rw [sg_spec_l12Copy, sem_go]
  simp (maxSteps := 10000000) (disch := first | assumption | omega) only [F_spec_l12Copy, params, EG, EL, simprocAttr, FB, ED, cx_spec_l12Copy, h1, h2]
theorem sem_impl_copyGate (x : DGate) (h : x.Waits.length + x.Queues.length ≤ 1099511627776) : S_impl_copyGate.sem [.agg (cGate x)] = some (.agg (cGate x), []) := by
  have h1 : x.Waits.length * 8 ≤ 70368744177664 := by omega
  have h2 : x.Queues.length * 8 ≤ 70368744177664 := by omega
  rw [sg_impl_copyGate, sem_go]
  simp (maxSteps := 10000000) (disch := first | assumption | omega) only [F_impl_copyGate, params, EG, EL, simprocAttr, FB, ED, cx_impl_copyGate, h1, h2]
theorem sem_spec_GateOk (x : DGate) (h : x.Waits.length + x.Queues.length ≤ 1099511627776) : S_spec_GateOk.sem [.agg (cGate x)] = some (.bool (gateOk x.Owner x.Waits x.Queues), []) := by
  have loop0 : ∀ all : List Int, all.length ≤ 1 → loopV X_spec_GateOk 0 [1, 3, 4] [(1, [1, 3]), (0, [2])] B0_spec_GateOk ⟨[(1, .ptr ⟨0, none, 0⟩ 3 0 0), (3, .sl ⟨1, none, 0⟩ 1 0 all.length), (4, .int .i64 0)], [some ⟨true, 0, 3, [cGate x]⟩, some ⟨false, 0, 1, all.map cI⟩]⟩ = okR (freshB all x.Waits) 0 ⟨[(1, .ptr ⟨0, none, 0⟩ 3 0 0), (3, .sl ⟨1, none, 0⟩ 1 0 (all ++ x.Waits).length)], [some ⟨true, 0, 3, [cGate x]⟩, some ⟨false, 0, 1, (all ++ x.Waits).map cI⟩]⟩ 2 := by
    intro all hall
    refine loop_list x.Waits (fun i (a : List Int) => a.length ≤ 1 + i) (fun i a => ⟨[(1, .ptr ⟨0, none, 0⟩ 3 0 0), (3, .sl ⟨1, none, 0⟩ 1 0 a.length), (4, .int .i64 ((i : Nat) : Int))], [some ⟨true, 0, 3, [cGate x]⟩, some ⟨false, 0, 1, a.map cI⟩]⟩) (fun rest a => okR (freshB a rest) 0 ⟨[(1, .ptr ⟨0, none, 0⟩ 3 0 0), (3, .sl ⟨1, none, 0⟩ 1 0 (a ++ rest).length)], [some ⟨true, 0, 3, [cGate x]⟩, some ⟨false, 0, 1, (a ++ rest).map cI⟩]⟩ 2) ?_ ?_ all hall
    · intro a _
      rw [loopV_by B0_spec_GateOk.eq_1]
      simp only [EG, EL, simprocAttr, FB, int_lt_irrefl, freshB, okR_true]
    · rintro i hi0 y rest a rfl rfl ha ih
      have hi : (i : Int) < (x.Waits.length : Int) := by omega
      have hc : (a.length + 1) * 8 ≤ 70368744177664 := by omega
      have hm : a.length ≤ 140737488351232 := by omega
      rw [loopV_by B0_spec_GateOk.eq_1]
      simp (maxSteps := 10000000) (disch := first | assumption | omega) only [EG, EL, simprocAttr, FB, hi, wrap_succ, getRow _ _ hi0, hc, cx_spec_GateOk, cl_spec_l01In, sem_spec_l01In, cl_spec_l12In, sem_spec_l12In, map_cI_snoc, freshB]
      by_cases h1 : 0 ≤ x.Waits[i] ∧ x.Waits[i] ≤ 3
      · by_cases h2 : x.Waits[i] ∈ a
        · simp only [h1, h2, EG, EL, simprocAttr, FB, not_true_eq_false, okR_false, Bool.false_and, Bool.and_false, decide_true]
        · have := ih (a ++ [x.Waits[i]]) (by simp; omega)
          simp only [EG, EL, simprocAttr, FB, List.append_assoc] at this
          simp only [h1, h2, EG, EL, simprocAttr, FB, this, decide_true, not_false_eq_true, List.append_assoc]
      · simp only [h1, EG, EL, simprocAttr, FB, okR_false, Bool.false_and, decide_false]
  have loop1 : ∀ all : List Int, all.length ≤ 1 + x.Waits.length → loopV X_spec_GateOk 0 [1, 3, 5] [(3, []), (0, [2])] B1_spec_GateOk ⟨[(1, .ptr ⟨0, none, 0⟩ 3 0 0), (3, .sl ⟨1, none, 0⟩ 1 0 all.length), (5, .int .i64 0)], [some ⟨true, 0, 3, [cGate x]⟩, some ⟨false, 0, 1, all.map cI⟩]⟩ = okR (qfreshB all x.Queues) 2 ⟨[], []⟩ 2 := by
    intro all hall
    refine loop_list x.Queues (fun i (a : List Int) => a.length ≤ 1 + x.Waits.length + i) (fun i a => ⟨[(1, .ptr ⟨0, none, 0⟩ 3 0 0), (3, .sl ⟨1, none, 0⟩ 1 0 a.length), (5, .int .i64 ((i : Nat) : Int))], [some ⟨true, 0, 3, [cGate x]⟩, some ⟨false, 0, 1, a.map cI⟩]⟩) (fun rest a => okR (qfreshB a rest) 2 ⟨[], []⟩ 2) ?_ ?_ all hall
    · intro a _
      rw [loopV_by B1_spec_GateOk.eq_1]
      simp only [EG, EL, simprocAttr, FB, int_lt_irrefl, qfreshB, okR_true]
    · rintro i hi0 y rest a rfl rfl ha ih
      have hi : (i : Int) < (x.Queues.length : Int) := by omega
      have hc : (a.length + 1) * 8 ≤ 70368744177664 := by omega
      have hm : a.length ≤ 140737488351232 := by omega
      have := ih (a ++ [x.Queues[i]]) (by simp; omega)
      simp only [EG, EL, simprocAttr, FB, List.append_assoc] at this
      rw [loopV_by B1_spec_GateOk.eq_1]
      simp (maxSteps := 10000000) (disch := first | assumption | omega) only [EG, EL, simprocAttr, FB, hi, wrap_succ, getRow _ _ hi0, hc, cx_spec_GateOk, cl_spec_l01In, sem_spec_l01In, cl_spec_l12In, sem_spec_l12In, map_cI_snoc, qfreshB, this]
      by_cases h0 : x.Queues[i] = -1
      · simp only [h0, EG, EL, simprocAttr, FB]
      · simp only [h0, if_false]
        by_cases h1 : 0 ≤ x.Queues[i] ∧ x.Queues[i] ≤ 3
        · have h3 : -1 ≤ x.Queues[i] := by omega
          by_cases h2 : x.Queues[i] ∈ a
          · simp only [h1, h2, h3, EG, EL, simprocAttr, FB, not_true_eq_false, okR_false, Bool.false_and, Bool.and_false, decide_true]
          · simp only [h1, h2, h3, EG, EL, simprocAttr, FB, decide_true, not_false_eq_true]
        · have h3 : ¬ (-1 ≤ x.Queues[i] ∧ x.Queues[i] ≤ 3) := by omega
          simp only [h1, h3, EG, EL, simprocAttr, FB, okR_false, Bool.false_and, decide_false]
  rw [sg_spec_GateOk, sem_go, gateOk_spec]
  simp (maxSteps := 10000000) (disch := first | assumption | omega) only [F_spec_GateOk, params, EG, EL, simprocAttr, FB, cx_spec_GateOk, cl_spec_l01In, sem_spec_l01In]
  by_cases h1 : -1 ≤ x.Owner ∧ x.Owner ≤ 3
  · by_cases h2 : x.Queues.length ≤ 2
    · have h2' : ¬ (2 : Int) < (x.Queues.length : Int) := by omega
      by_cases h3 : x.Owner < 0
      · have h3' : ¬ 0 ≤ x.Owner := by omega
        by_cases h4 : 0 < x.Waits.length
        · have h4' : (0 : Int) < (x.Waits.length : Int) := by omega
          simp only [h1, h2, h2', h3, h4, h4', EG, EL, simprocAttr, FB, decide_true, Bool.not_true, Bool.false_and]
        · have h4' : ¬ (0 : Int) < (x.Waits.length : Int) := by omega
          have l0 := loop0 [] (by simp)
          have l1 := loop1 ([] ++ x.Waits) (by simp)
          simp only [EG, EL, simprocAttr, FB] at l0 l1
          simp only [h1, h2, h2', h3, h3', h4, h4', EG, EL, simprocAttr, FB, decide_true, decide_false, l0, goE_okR]
          cases freshB [] x.Waits <;> simp only [EG, EL, simprocAttr, FB, l1, goE_okR]
          cases qfreshB x.Waits x.Queues <;> simp only [EG, EL, simprocAttr, FB]
      · have h3' : 0 ≤ x.Owner := by omega
        have l0 := loop0 [x.Owner] (by simp)
        have l1 := loop1 ([x.Owner] ++ x.Waits) (by simp; omega)
        simp only [EG, EL, simprocAttr, FB] at l0 l1
        simp only [h1, h2, h2', h3, h3', EG, EL, simprocAttr, FB, decide_true, decide_false, Bool.false_and, l0, goE_okR]
        cases freshB [x.Owner] x.Waits <;> simp only [EG, EL, simprocAttr, FB, l1, goE_okR]
        cases qfreshB (x.Owner :: x.Waits) x.Queues <;> simp only [EG, EL, simprocAttr, FB]
    · have h2' : (2 : Int) < (x.Queues.length : Int) := by omega
      simp only [h1, h2, h2', EG, EL, simprocAttr, FB, decide_true, decide_false, Bool.false_and]
  · simp only [h1, EG, EL, simprocAttr, FB, decide_false, Bool.false_and]
theorem sem_impl_inGate (x : DGate) (h : x.Waits.length + x.Queues.length ≤ 1099511627776) : S_impl_inGate.sem [.agg (cGate x)] = some (.tree 1 ((inGate x.Owner x.Waits x.Queues).map cI), []) := by
  have loop : ∀ all : List Int, all.length ≤ 1 + x.Waits.length → loopV X_impl_inGate 0 [3, 19, 20, 21] [(1, [3])] B0_impl_inGate ⟨[(3, .sl ⟨0, none, 0⟩ 1 0 all.length), (19, .tree 1 (x.Queues.map cI)), (20, .int .i64 x.Queues.length), (21, .int .i64 0)], [some ⟨false, 0, 1, all.map cI⟩]⟩ = some (.exit 0, ⟨[(3, .sl ⟨0, none, 0⟩ 1 0 (all ++ somebody x.Queues).length)], [some ⟨false, 0, 1, (all ++ somebody x.Queues).map cI⟩]⟩) := by
    intro all hall
    refine loop_list x.Queues (fun i (a : List Int) => a.length ≤ 1 + x.Waits.length + i) (fun i a => ⟨[(3, .sl ⟨0, none, 0⟩ 1 0 a.length), (19, .tree 1 (x.Queues.map cI)), (20, .int .i64 x.Queues.length), (21, .int .i64 ((i : Nat) : Int))], [some ⟨false, 0, 1, a.map cI⟩]⟩) (fun rest a => some (.exit 0, ⟨[(3, .sl ⟨0, none, 0⟩ 1 0 (a ++ somebody rest).length)], [some ⟨false, 0, 1, (a ++ somebody rest).map cI⟩]⟩)) ?_ ?_ all hall
    · intro a _
      rw [loopV_by B0_impl_inGate.eq_1]
      simp only [EG, EL, simprocAttr, FB, int_lt_irrefl, somebody, List.filter_nil]
    · rintro i hi0 y rest a rfl rfl ha ih
      have hi : (i : Int) < (x.Queues.length : Int) := by omega
      have hc : (a.length + 1) * 8 ≤ 70368744177664 := by omega
      have i1 := ih (a ++ [x.Queues[i]]) (by simp; omega)
      have i2 := ih a (by omega)
      simp only [EG, EL, simprocAttr, FB, List.append_assoc] at i1 i2
      rw [loopV_by B0_impl_inGate.eq_1]
      simp (disch := first | assumption | omega) only [EG, EL, simprocAttr, FB, hi, wrap_succ, getRow _ _ hi0, hc, map_cI_snoc]
      by_cases h0 : x.Queues[i] = -1
      · simp only [h0, EG, EL, simprocAttr, FB] at i2 ⊢
        simp only [i2, somebody, List.filter_cons, ne_eq, not_true_eq_false, decide_false, Bool.false_eq_true, if_false]
      · simp only [h0, EG, EL, simprocAttr, FB, i1, somebody, List.filter_cons, ne_eq, not_false_eq_true, decide_true]
  rw [sg_impl_inGate, sem_go]
  have c1 : (1 + x.Waits.length) * 8 ≤ 70368744177664 := by omega
  have c2 : x.Waits.length * 8 ≤ 70368744177664 := by omega
  by_cases ho : x.Owner = -1
  · have l := loop x.Waits (by omega)
    simp only [EG, EL, simprocAttr, FB] at l
    simp (disch := first | assumption | omega) only [F_impl_inGate, params, EG, EL, simprocAttr, FB, cx_impl_inGate, ho, c2, l, inGate]
  · have l := loop ([x.Owner] ++ x.Waits) (by simp; omega)
    simp only [EG, EL, simprocAttr, FB] at l
    simp (disch := first | assumption | omega) only [F_impl_inGate, params, EG, EL, simprocAttr, FB, cx_impl_inGate, ho, c1, Nat.add_comm, l, inGate]
    rw [if_pos (by omega)]
theorem sem_impl_GateOk (x : DGate) (h : x.Waits.length + x.Queues.length ≤ 1099511627776) : S_impl_GateOk.sem [.agg (cGate x)] = some (.bool (gateOk x.Owner x.Waits x.Queues), []) := by
  have hlen := inGate_len x.Owner x.Waits x.Queues
  have hg : gateOk x.Owner x.Waits x.Queues = (freshB [] (inGate x.Owner x.Waits x.Queues) && (decide (x.Queues.length ≤ 2) && decide (x.Owner ≠ -1 ∨ x.Waits.length = 0))) := by
    unfold gateOk inGate
    cases freshB [] ((if x.Owner = -1 then [] else [x.Owner]) ++ x.Waits ++ somebody x.Queues) <;> simp
  rw [hg]
  generalize hall : inGate x.Owner x.Waits x.Queues = all at hlen
  have loop : loopV X_impl_GateOk 0 [1, 3, 8, 9, 10] [(1, [1]), (0, [2])] B0_impl_GateOk ⟨[(1, .ptr ⟨0, none, 0⟩ 3 0 0), (3, .sl ⟨1, none, 0⟩ 1 0 all.length), (8, .sl ⟨1, none, 0⟩ 1 0 all.length), (9, .int .i64 all.length), (10, .int .i64 0)], [some ⟨true, 0, 3, [cGate x]⟩, some ⟨false, 0, 1, all.map cI⟩]⟩ = okR (freshB [] all) 0 ⟨[(1, .ptr ⟨0, none, 0⟩ 3 0 0)], [some ⟨true, 0, 3, [cGate x]⟩]⟩ 2 := by
    refine loop_list all (fun i (a : List Int) => a = all.take i) (fun i a => ⟨[(1, .ptr ⟨0, none, 0⟩ 3 0 0), (3, .sl ⟨1, none, 0⟩ 1 0 all.length), (8, .sl ⟨1, none, 0⟩ 1 0 all.length), (9, .int .i64 all.length), (10, .int .i64 ((i : Nat) : Int))], [some ⟨true, 0, 3, [cGate x]⟩, some ⟨false, 0, 1, all.map cI⟩]⟩) (fun rest a => okR (freshB a rest) 0 ⟨[(1, .ptr ⟨0, none, 0⟩ 3 0 0)], [some ⟨true, 0, 3, [cGate x]⟩]⟩ 2) ?_ ?_ [] (by simp)
    · rintro a rfl
      rw [loopV_by B0_impl_GateOk.eq_1]
      simp only [EG, EL, simprocAttr, FB, int_lt_irrefl, freshB, okR_true]
    · rintro i hi0 y rest a rfl rfl rfl ih
      have hi : (i : Int) < (all.length : Int) := by omega
      have hi1 : (i : Int) ≤ (all.length : Int) := by omega
      have hm : (all.take i).length = i := by rw [List.length_take]; omega
      have hm2 : (all.take i).length ≤ 140737488351232 := by omega
      have i1 := ih (all.take i ++ [all[i]]) (by rw [List.take_succ_eq_append_getElem hi0])
      rw [loopV_by B0_impl_GateOk.eq_1]
      simp (disch := first | assumption | omega) only [EG, EL, simprocAttr, FB, hi, hi0, hi1, hm, wrap_succ, getRow _ _ hi0, cx_impl_GateOk, cl_impl_within, sem_impl_within, seg_take, cl_slices_Contains_int_int, sem_slices_Contains_int_int, Nat.sub_zero]
      by_cases h1 : 0 ≤ all[i] ∧ all[i] ≤ 3
      · by_cases h2 : all[i] ∈ all.take i
        · simp only [h1, h2, EG, EL, simprocAttr, FB, freshB, not_true_eq_false, okR_false, decide_true, decide_false]
        · simp only [h1, h2, EG, EL, simprocAttr, FB, freshB, i1, not_false_eq_true, decide_true]
      · simp only [h1, EG, EL, simprocAttr, FB, freshB, okR_false, decide_false]
  rw [sg_impl_GateOk, sem_go]
  simp (disch := first | assumption | omega) only [F_impl_GateOk, params, EG, EL, simprocAttr, FB, cx_impl_GateOk, cl_impl_inGate, sem_impl_inGate, hall, loop, goE_okR]
  cases freshB [] all
  · simp only [EG, EL, simprocAttr, FB]
  · by_cases h1 : x.Queues.length ≤ 2
    · have h1' : (x.Queues.length : Int) ≤ 2 := by omega
      by_cases h2 : x.Owner = -1
      · by_cases h3 : x.Waits.length = 0
        · have h3' : (x.Waits.length : Int) = 0 := by omega
          simp only [h1, h1', h2, h3, h3', EG, EL, simprocAttr, FB, not_true_eq_false, false_or, decide_true]
        · have h3' : ¬ (x.Waits.length : Int) = 0 := by omega
          simp only [h1, h1', h2, h3, h3', EG, EL, simprocAttr, FB, not_true_eq_false, false_or, decide_true, decide_false]
      · simp only [h1, h1', h2, EG, EL, simprocAttr, FB, not_false_eq_true, true_or, decide_true]
    · have h1' : ¬ (x.Queues.length : Int) ≤ 2 := by omega
      simp only [h1, h1', EG, EL, simprocAttr, FB, decide_false]
def nextG (x : DGate) : DGate := match x.Waits with | [] => { x with Owner := -1 } | w :: ws => { x with Owner := w, Waits := ws }
def leaveG (x : DGate) : DGate × Int := if gateOk x.Owner x.Waits x.Queues = true ∧ x.Owner ≠ -1 then (nextG x, (nextG x).Owner) else (x, -1)
theorem gateOk_range {o : Int} {w q : List Int} (h : gateOk o w q = true) : -1 ≤ o ∧ o ≤ 3 := by
  by_cases h1 : -1 ≤ o ∧ o ≤ 3
  · exact h1
  · rw [gateOk_low h1] at h; cases h
theorem sem_spec_Leave (x : DGate) (h : x.Waits.length + x.Queues.length ≤ 1099511627776) : S_spec_Leave.sem [.agg (cGate x)] = some (.tup [.agg (cGate (leaveG x).1), .int .i64 (leaveG x).2], []) := by
  rw [sg_spec_Leave, sem_go]
  have hc := sem_spec_l12Copy x h
  have hk := sem_spec_GateOk x h
  obtain ⟨o, w, q⟩ := x
  simp only at h hc hk
  cases hg : gateOk o w q
  · simp (disch := first | assumption | omega) only [cGate, F_spec_Leave, params, EG, EL, simprocAttr, FB, cx_spec_Leave, cl_spec_l12Copy, hc, cl_spec_GateOk, hk, hg, leaveG, false_and]
  · have hr := gateOk_range hg
    by_cases ho : o = -1
    · subst ho
      simp (disch := first | assumption | omega) only [cGate, F_spec_Leave, params, EG, EL, simprocAttr, FB, cx_spec_Leave, cl_spec_l12Copy, hc, cl_spec_GateOk, hk, hg, leaveG]
    · have ho' : ¬ o < 0 := by omega
      cases w with
      | nil =>
        simp only [cGate, List.map_nil] at hc hk
        simp (disch := first | assumption | omega) only [cGate, F_spec_Leave, params, EG, EL, simprocAttr, FB, cx_spec_Leave, cl_spec_l12Copy, hc, cl_spec_GateOk, hk, hg, leaveG, nextG, ho, ho', cl_spec_l12Next, run_goF, F_spec_l12Next, cx_spec_l12Next]
      | cons y ys =>
        simp only [List.length_cons] at h
        simp only [cGate, List.map_cons] at hc hk
        have h1 : (0 : Int) < ((ys.length + 1 : Nat) : Int) := by omega
        have h2 : (1 : Int) ≤ ((ys.length + 1 : Nat) : Int) := by omega
        have h3 : ys.length * 8 ≤ 70368744177664 := by omega
        simp (disch := first | assumption | omega) only [cGate, F_spec_Leave, params, EG, EL, simprocAttr, FB, cx_spec_Leave, cl_spec_l12Copy, hc, cl_spec_GateOk, hk, hg, leaveG, nextG, ho, ho', cl_spec_l12Next, run_goF, F_spec_l12Next, cx_spec_l12Next, h1, h2, h3]
theorem sem_impl_Leave (x : DGate) (h : x.Waits.length + x.Queues.length ≤ 1099511627776) : S_impl_Leave.sem [.agg (cGate x)] = some (.tup [.agg (cGate (leaveG x).1), .int .i64 (leaveG x).2], []) := by
  rw [sg_impl_Leave, sem_go]
  have hc := sem_impl_copyGate x h
  have hk := sem_impl_GateOk x h
  obtain ⟨o, w, q⟩ := x
  simp only at h hc hk
  cases hg : gateOk o w q
  · simp (disch := first | assumption | omega) only [cGate, F_impl_Leave, params, EG, EL, simprocAttr, FB, cx_impl_Leave, cl_impl_copyGate, hc, cl_impl_GateOk, hk, hg, leaveG, false_and]
  · have hr := gateOk_range hg
    by_cases ho : o = -1
    · subst ho
      simp (disch := first | assumption | omega) only [cGate, F_impl_Leave, params, EG, EL, simprocAttr, FB, cx_impl_Leave, cl_impl_copyGate, hc, cl_impl_GateOk, hk, hg, leaveG]
    · cases w with
      | nil =>
        simp only [cGate, List.map_nil] at hc hk
        simp (disch := first | assumption | omega) only [cGate, F_impl_Leave, params, EG, EL, simprocAttr, FB, ED, cx_impl_Leave, cl_impl_copyGate, hc, cl_impl_GateOk, hk, hg, leaveG, nextG, ho]
      | cons y ys =>
        simp only [List.length_cons] at h
        simp only [cGate, List.map_cons] at hc hk
        have h1 : (0 : Int) < ((ys.length + 1 : Nat) : Int) := by omega
        have h2 : (1 : Int) ≤ ((ys.length + 1 : Nat) : Int) := by omega
        have h3 : ys.length * 8 ≤ 70368744177664 := by omega
        have h4 : 1 + ys.length ≤ ys.length + 1 := by omega
        simp (disch := first | assumption | omega) only [h4, cGate, F_impl_Leave, params, EG, EL, simprocAttr, FB, ED, cx_impl_Leave, cl_impl_copyGate, hc, cl_impl_GateOk, hk, hg, leaveG, nextG, ho, h1, h2, h3]
def delayG (x : DGate) (q : Int) : DGate × Int × Bool := if gateOk x.Owner x.Waits x.Queues = true ∧ x.Owner ≠ -1 ∧ (0 ≤ q ∧ q ≤ (x.Queues.length : Int) - 1) ∧ x.Queues.getD q.toNat 0 = -1 then ({ nextG x with Queues := x.Queues.set q.toNat x.Owner }, (nextG x).Owner, true) else (x, -1, false)
def contG (x : DGate) (q : Int) : DGate × Int := if gateOk x.Owner x.Waits x.Queues = true ∧ x.Owner ≠ -1 ∧ (0 ≤ q ∧ q ≤ (x.Queues.length : Int) - 1) then (if x.Queues.getD q.toNat 0 = -1 then (nextG x, (nextG x).Owner) else ({ x with Owner := x.Queues.getD q.toNat 0, Queues := x.Queues.set q.toNat (-1) }, x.Queues.getD q.toNat 0)) else (x, -1)
theorem gateOk_queue {o : Int} {w q : List Int} (h : gateOk o w q = true) {i : Nat} (hi : i < q.length) : q[i] = -1 ∨ (0 ≤ q[i] ∧ q[i] ≤ 3) := by
  unfold gateOk at h
  simp only [Bool.and_eq_true] at h
  by_cases h1 : q[i] = -1
  · exact .inl h1
  · right
    refine freshB_mem _ _ h.2.1 _ ?_
    simp only [List.mem_append]
    right
    unfold somebody
    rw [List.mem_filter]
    exact ⟨List.getElem_mem hi, by simpa using h1⟩
theorem sem_spec_DelayIn (x : DGate) (h : x.Waits.length + x.Queues.length ≤ 1099511627776) (q : Int) : S_spec_DelayIn.sem [.agg (cGate x), .int .i64 q] = some (.tup [.agg (cGate (delayG x q).1), .int .i64 (delayG x q).2.1, .bool (delayG x q).2.2], []) := by
  rw [sg_spec_DelayIn, sem_go]
  have hc := sem_spec_l12Copy x h
  have hk := sem_spec_GateOk x h
  skip
  obtain ⟨o, w, qs⟩ := x
  simp only at h hc hk
  cases hg : gateOk o w qs
  · simp (disch := first | assumption | omega) only [cGate, F_spec_DelayIn, params, EG, EL, simprocAttr, FB, ED, cx_spec_DelayIn, cl_spec_l12Copy, hc, cl_spec_GateOk, hk, hg, cl_spec_l01In, sem_spec_l01In, delayG, wrapI, false_and]
  · have hr := gateOk_range hg
    by_cases ho : o = -1
    · subst ho
      simp (disch := first | assumption | omega) only [cGate, F_spec_DelayIn, params, EG, EL, simprocAttr, FB, ED, cx_spec_DelayIn, cl_spec_l12Copy, hc, cl_spec_GateOk, hk, hg, cl_spec_l01In, sem_spec_l01In, delayG, wrapI]
    · have ho' : ¬ o < 0 := by omega
      by_cases hq : 0 ≤ q ∧ q ≤ (qs.length : Int) - 1
      · obtain ⟨n, rfl⟩ : ∃ n : Nat, q = (n : Int) := ⟨q.toNat, by omega⟩
        have hn : n < qs.length := by omega
        have hn' : (n : Int) < (qs.length : Int) := by omega
        have hgd : qs.getD n 0 = qs[n] := by simp [List.getD_eq_getElem?_getD, hn]
        have hrng := gateOk_queue hg hn
        by_cases hv : qs[n] = -1
        · have hv' : qs[n] < 0 := by omega
          have hv2 : ¬ 0 ≤ qs[n] := by omega
          cases w with
          | nil =>
            simp only [cGate, List.map_nil] at hc hk
            simp (disch := first | assumption | omega) only [cGate, F_spec_DelayIn, params, EG, EL, simprocAttr, FB, ED, cx_spec_DelayIn, cl_spec_l12Copy, hc, cl_spec_GateOk, hk, hg, cl_spec_l01In, sem_spec_l01In, delayG, wrapI, ho, ho', hq, hn, hn', hgd, hv, hv', hv2, getRow _ _ hn, nextG, cl_spec_l12Next, run_goF, F_spec_l12Next, cx_spec_l12Next]
          | cons y ys =>
            simp only [List.length_cons] at h
            simp only [cGate, List.map_cons] at hc hk
            have h1 : (0 : Int) < ((ys.length + 1 : Nat) : Int) := by omega
            have h2 : (1 : Int) ≤ ((ys.length + 1 : Nat) : Int) := by omega
            have h3 : ys.length * 8 ≤ 70368744177664 := by omega
            have h4 : 1 + ys.length ≤ ys.length + 1 := by omega
            simp (disch := first | assumption | omega) only [cGate, F_spec_DelayIn, params, EG, EL, simprocAttr, FB, ED, cx_spec_DelayIn, cl_spec_l12Copy, hc, cl_spec_GateOk, hk, hg, cl_spec_l01In, sem_spec_l01In, delayG, wrapI, ho, ho', hq, hn, hn', hgd, hv, hv', hv2, getRow _ _ hn, nextG, h1, h2, h3, h4, cl_spec_l12Next, run_goF, F_spec_l12Next, cx_spec_l12Next]
        · have hv' : ¬ qs[n] < 0 := by omega
          have hv2 : 0 ≤ qs[n] := by omega
          simp (disch := first | assumption | omega) only [cGate, F_spec_DelayIn, params, EG, EL, simprocAttr, FB, ED, cx_spec_DelayIn, cl_spec_l12Copy, hc, cl_spec_GateOk, hk, hg, cl_spec_l01In, sem_spec_l01In, delayG, wrapI, ho, ho', hq, hn, hn', hgd, hv, hv', hv2, getRow _ _ hn]
      · simp (disch := first | assumption | omega) only [cGate, F_spec_DelayIn, params, EG, EL, simprocAttr, FB, ED, cx_spec_DelayIn, cl_spec_l12Copy, hc, cl_spec_GateOk, hk, hg, cl_spec_l01In, sem_spec_l01In, delayG, wrapI, ho, ho', hq]
theorem sem_impl_DelayIn (x : DGate) (h : x.Waits.length + x.Queues.length ≤ 1099511627776) (q : Int) : S_impl_DelayIn.sem [.agg (cGate x), .int .i64 q] = some (.tup [.agg (cGate (delayG x q).1), .int .i64 (delayG x q).2.1, .bool (delayG x q).2.2], []) := by
  rw [sg_impl_DelayIn, sem_go]
  have hc := sem_impl_copyGate x h
  have hk := sem_impl_GateOk x h
  have hl := sem_impl_Leave x h
  obtain ⟨o, w, qs⟩ := x
  simp only at h hc hk hl
  cases hg : gateOk o w qs
  · simp (disch := first | assumption | omega) only [cGate, F_impl_DelayIn, params, EG, EL, simprocAttr, FB, ED, cx_impl_DelayIn, cl_impl_copyGate, hc, cl_impl_GateOk, hk, hg, cl_impl_within, sem_impl_within, delayG, wrapI, false_and]
  · have hr := gateOk_range hg
    by_cases ho : o = -1
    · subst ho
      simp (disch := first | assumption | omega) only [cGate, F_impl_DelayIn, params, EG, EL, simprocAttr, FB, ED, cx_impl_DelayIn, cl_impl_copyGate, hc, cl_impl_GateOk, hk, hg, cl_impl_within, sem_impl_within, delayG, wrapI]
    · have ho' : ¬ o < 0 := by omega
      by_cases hq : 0 ≤ q ∧ q ≤ (qs.length : Int) - 1
      · obtain ⟨n, rfl⟩ : ∃ n : Nat, q = (n : Int) := ⟨q.toNat, by omega⟩
        have hn : n < qs.length := by omega
        have hn' : (n : Int) < (qs.length : Int) := by omega
        have hgd : qs.getD n 0 = qs[n] := by simp [List.getD_eq_getElem?_getD, hn]
        have hrng := gateOk_queue hg hn
        by_cases hv : qs[n] = -1
        · have hv' : qs[n] < 0 := by omega
          have hv2 : ¬ 0 ≤ qs[n] := by omega
          cases w with
          | nil =>
            simp only [cGate, List.map_nil, leaveG, nextG, hg] at hc hk hl
            simp (disch := first | assumption | omega) only [cGate, F_impl_DelayIn, params, EG, EL, simprocAttr, FB, ED, cx_impl_DelayIn, cl_impl_copyGate, hc, cl_impl_GateOk, hk, hg, cl_impl_within, sem_impl_within, delayG, wrapI, ho, ho', hq, hn, hn', hgd, hv, hv', hv2, getRow _ _ hn, nextG, hl, cl_impl_Leave, sem_impl_Leave, leaveG, hg]
          | cons y ys =>
            simp only [List.length_cons] at h
            simp only [cGate, List.map_cons, leaveG, nextG, hg] at hc hk hl
            have h1 : (0 : Int) < ((ys.length + 1 : Nat) : Int) := by omega
            have h2 : (1 : Int) ≤ ((ys.length + 1 : Nat) : Int) := by omega
            have h3 : ys.length * 8 ≤ 70368744177664 := by omega
            have h4 : 1 + ys.length ≤ ys.length + 1 := by omega
            simp (disch := first | assumption | omega) only [cGate, F_impl_DelayIn, params, EG, EL, simprocAttr, FB, ED, cx_impl_DelayIn, cl_impl_copyGate, hc, cl_impl_GateOk, hk, hg, cl_impl_within, sem_impl_within, delayG, wrapI, ho, ho', hq, hn, hn', hgd, hv, hv', hv2, getRow _ _ hn, nextG, h1, h2, h3, h4, hl, cl_impl_Leave, sem_impl_Leave, leaveG, hg]
        · have hv' : ¬ qs[n] < 0 := by omega
          have hv2 : 0 ≤ qs[n] := by omega
          simp (disch := first | assumption | omega) only [cGate, F_impl_DelayIn, params, EG, EL, simprocAttr, FB, ED, cx_impl_DelayIn, cl_impl_copyGate, hc, cl_impl_GateOk, hk, hg, cl_impl_within, sem_impl_within, delayG, wrapI, ho, ho', hq, hn, hn', hgd, hv, hv', hv2, getRow _ _ hn]
      · simp (disch := first | assumption | omega) only [cGate, F_impl_DelayIn, params, EG, EL, simprocAttr, FB, ED, cx_impl_DelayIn, cl_impl_copyGate, hc, cl_impl_GateOk, hk, hg, cl_impl_within, sem_impl_within, delayG, wrapI, ho, ho', hq]
theorem sem_spec_ContinueAt (x : DGate) (h : x.Waits.length + x.Queues.length ≤ 1099511627776) (q : Int) : S_spec_ContinueAt.sem [.agg (cGate x), .int .i64 q] = some (.tup [.agg (cGate (contG x q).1), .int .i64 (contG x q).2], []) := by
  rw [sg_spec_ContinueAt, sem_go]
  have hc := sem_spec_l12Copy x h
  have hk := sem_spec_GateOk x h
  skip
  obtain ⟨o, w, qs⟩ := x
  simp only at h hc hk
  cases hg : gateOk o w qs
  · simp (disch := first | assumption | omega) only [cGate, F_spec_ContinueAt, params, EG, EL, simprocAttr, FB, ED, cx_spec_ContinueAt, cl_spec_l12Copy, hc, cl_spec_GateOk, hk, hg, cl_spec_l01In, sem_spec_l01In, contG, wrapI, false_and]
  · have hr := gateOk_range hg
    by_cases ho : o = -1
    · subst ho
      simp (disch := first | assumption | omega) only [cGate, F_spec_ContinueAt, params, EG, EL, simprocAttr, FB, ED, cx_spec_ContinueAt, cl_spec_l12Copy, hc, cl_spec_GateOk, hk, hg, cl_spec_l01In, sem_spec_l01In, contG, wrapI]
    · have ho' : ¬ o < 0 := by omega
      by_cases hq : 0 ≤ q ∧ q ≤ (qs.length : Int) - 1
      · obtain ⟨n, rfl⟩ : ∃ n : Nat, q = (n : Int) := ⟨q.toNat, by omega⟩
        have hn : n < qs.length := by omega
        have hn' : (n : Int) < (qs.length : Int) := by omega
        have hgd : qs.getD n 0 = qs[n] := by simp [List.getD_eq_getElem?_getD, hn]
        have hrng := gateOk_queue hg hn
        by_cases hv : qs[n] = -1
        · have hv' : qs[n] < 0 := by omega
          have hv2 : ¬ 0 ≤ qs[n] := by omega
          cases w with
          | nil =>
            simp only [cGate, List.map_nil] at hc hk
            simp (disch := first | assumption | omega) only [cGate, F_spec_ContinueAt, params, EG, EL, simprocAttr, FB, ED, cx_spec_ContinueAt, cl_spec_l12Copy, hc, cl_spec_GateOk, hk, hg, cl_spec_l01In, sem_spec_l01In, contG, wrapI, ho, ho', hq, hn, hn', hgd, hv, hv', hv2, getRow _ _ hn, nextG, cl_spec_l12Next, run_goF, F_spec_l12Next, cx_spec_l12Next]
          | cons y ys =>
            simp only [List.length_cons] at h
            simp only [cGate, List.map_cons] at hc hk
            have h1 : (0 : Int) < ((ys.length + 1 : Nat) : Int) := by omega
            have h2 : (1 : Int) ≤ ((ys.length + 1 : Nat) : Int) := by omega
            have h3 : ys.length * 8 ≤ 70368744177664 := by omega
            have h4 : 1 + ys.length ≤ ys.length + 1 := by omega
            simp (disch := first | assumption | omega) only [cGate, F_spec_ContinueAt, params, EG, EL, simprocAttr, FB, ED, cx_spec_ContinueAt, cl_spec_l12Copy, hc, cl_spec_GateOk, hk, hg, cl_spec_l01In, sem_spec_l01In, contG, wrapI, ho, ho', hq, hn, hn', hgd, hv, hv', hv2, getRow _ _ hn, nextG, h1, h2, h3, h4, cl_spec_l12Next, run_goF, F_spec_l12Next, cx_spec_l12Next]
        · have hv' : ¬ qs[n] < 0 := by omega
          have hv2 : 0 ≤ qs[n] := by omega
          simp (disch := first | assumption | omega) only [cGate, F_spec_ContinueAt, params, EG, EL, simprocAttr, FB, ED, cx_spec_ContinueAt, cl_spec_l12Copy, hc, cl_spec_GateOk, hk, hg, cl_spec_l01In, sem_spec_l01In, contG, wrapI, ho, ho', hq, hn, hn', hgd, hv, hv', hv2, getRow _ _ hn]
      · simp (disch := first | assumption | omega) only [cGate, F_spec_ContinueAt, params, EG, EL, simprocAttr, FB, ED, cx_spec_ContinueAt, cl_spec_l12Copy, hc, cl_spec_GateOk, hk, hg, cl_spec_l01In, sem_spec_l01In, contG, wrapI, ho, ho', hq]
theorem sem_impl_ContinueAt (x : DGate) (h : x.Waits.length + x.Queues.length ≤ 1099511627776) (q : Int) : S_impl_ContinueAt.sem [.agg (cGate x), .int .i64 q] = some (.tup [.agg (cGate (contG x q).1), .int .i64 (contG x q).2], []) := by
  rw [sg_impl_ContinueAt, sem_go]
  have hc := sem_impl_copyGate x h
  have hk := sem_impl_GateOk x h
  have hl := sem_impl_Leave x h
  obtain ⟨o, w, qs⟩ := x
  simp only at h hc hk hl
  cases hg : gateOk o w qs
  · simp (disch := first | assumption | omega) only [cGate, F_impl_ContinueAt, params, EG, EL, simprocAttr, FB, ED, cx_impl_ContinueAt, cl_impl_copyGate, hc, cl_impl_GateOk, hk, hg, cl_impl_within, sem_impl_within, contG, wrapI, false_and]
  · have hr := gateOk_range hg
    by_cases ho : o = -1
    · subst ho
      simp (disch := first | assumption | omega) only [cGate, F_impl_ContinueAt, params, EG, EL, simprocAttr, FB, ED, cx_impl_ContinueAt, cl_impl_copyGate, hc, cl_impl_GateOk, hk, hg, cl_impl_within, sem_impl_within, contG, wrapI]
    · have ho' : ¬ o < 0 := by omega
      by_cases hq : 0 ≤ q ∧ q ≤ (qs.length : Int) - 1
      · obtain ⟨n, rfl⟩ : ∃ n : Nat, q = (n : Int) := ⟨q.toNat, by omega⟩
        have hn : n < qs.length := by omega
        have hn' : (n : Int) < (qs.length : Int) := by omega
        have hgd : qs.getD n 0 = qs[n] := by simp [List.getD_eq_getElem?_getD, hn]
        have hrng := gateOk_queue hg hn
        by_cases hv : qs[n] = -1
        · have hv' : qs[n] < 0 := by omega
          have hv2 : ¬ 0 ≤ qs[n] := by omega
          cases w with
          | nil =>
            simp only [cGate, List.map_nil, leaveG, nextG, hg] at hc hk hl
            simp (disch := first | assumption | omega) only [cGate, F_impl_ContinueAt, params, EG, EL, simprocAttr, FB, ED, cx_impl_ContinueAt, cl_impl_copyGate, hc, cl_impl_GateOk, hk, hg, cl_impl_within, sem_impl_within, contG, wrapI, ho, ho', hq, hn, hn', hgd, hv, hv', hv2, getRow _ _ hn, nextG, hl, cl_impl_Leave, sem_impl_Leave, leaveG, hg]
          | cons y ys =>
            simp only [List.length_cons] at h
            simp only [cGate, List.map_cons, leaveG, nextG, hg] at hc hk hl
            have h1 : (0 : Int) < ((ys.length + 1 : Nat) : Int) := by omega
            have h2 : (1 : Int) ≤ ((ys.length + 1 : Nat) : Int) := by omega
            have h3 : ys.length * 8 ≤ 70368744177664 := by omega
            have h4 : 1 + ys.length ≤ ys.length + 1 := by omega
            simp (disch := first | assumption | omega) only [cGate, F_impl_ContinueAt, params, EG, EL, simprocAttr, FB, ED, cx_impl_ContinueAt, cl_impl_copyGate, hc, cl_impl_GateOk, hk, hg, cl_impl_within, sem_impl_within, contG, wrapI, ho, ho', hq, hn, hn', hgd, hv, hv', hv2, getRow _ _ hn, nextG, h1, h2, h3, h4, hl, cl_impl_Leave, sem_impl_Leave, leaveG, hg]
        · have hv' : ¬ qs[n] < 0 := by omega
          have hv2 : 0 ≤ qs[n] := by omega
          simp (disch := first | assumption | omega) only [cGate, F_impl_ContinueAt, params, EG, EL, simprocAttr, FB, ED, cx_impl_ContinueAt, cl_impl_copyGate, hc, cl_impl_GateOk, hk, hg, cl_impl_within, sem_impl_within, contG, wrapI, ho, ho', hq, hn, hn', hgd, hv, hv', hv2, getRow _ _ hn]
      · simp (disch := first | assumption | omega) only [cGate, F_impl_ContinueAt, params, EG, EL, simprocAttr, FB, ED, cx_impl_ContinueAt, cl_impl_copyGate, hc, cl_impl_GateOk, hk, hg, cl_impl_within, sem_impl_within, contG, wrapI, ho, ho', hq]
def arriveG (x : DGate) (i : Int) : DGate × Bool := if gateOk x.Owner x.Waits x.Queues = true ∧ (0 ≤ i ∧ i ≤ 3) ∧ ¬ (x.Owner = i ∨ i ∈ x.Waits ∨ i ∈ x.Queues) then (if x.Owner = -1 then ({ x with Owner := i }, true) else ({ x with Waits := x.Waits ++ [i] }, false)) else (x, false)
theorem mem_inGate {o : Int} {w q : List Int} {i : Int} (h : 0 ≤ i) : i ∈ inGate o w q ↔ (o = i ∨ i ∈ w ∨ i ∈ q) := by
  have h1 : i ≠ -1 := by omega
  have h2 : ¬ i = -1 := h1
  unfold inGate somebody
  by_cases ho : o = -1
  · subst ho; have h3 : ¬ (-1 : Int) = i := by omega
    simp [h2, h3]
  · simp [ho, h2, eq_comm]
set_option maxHeartbeats 4000000 in
theorem sem_spec_Arrive (x : DGate) (h : x.Waits.length + x.Queues.length ≤ 1048576) (i : Int) : S_spec_Arrive.sem [.agg (cGate x), .int .i64 i] = some (.tup [.agg (cGate (arriveG x i).1), .bool (arriveG x i).2], []) := by
  have hc := sem_spec_l12Copy x (Nat.le_trans h (by omega))
  have hk := sem_spec_GateOk x (Nat.le_trans h (by omega))
  skip
  obtain ⟨o, w, q⟩ := x
  simp only at h hc hk
  have hil : (inGate o w q).length ≤ 140737488351232 := by have := inGate_len o w q; omega
  have hl1 : w.length ≤ 140737488351232 := by omega
  have hl2 : q.length ≤ 140737488351232 := by omega
  have hw1 : (w.length + 1) * 8 ≤ 70368744177664 := by omega
  rw [sg_spec_Arrive, sem_go]
  cases hg : gateOk o w q
  · have e : arriveG ⟨o, w, q⟩ i = (⟨o, w, q⟩, false) := by simp [arriveG, hg]
    simp only [hg] at hk
    simp (maxSteps := 10000000) (disch := first | assumption | omega) only [cGate, F_spec_Arrive, params, EG, EL, simprocAttr, FB, ED, FT, cx_spec_Arrive, cl_spec_l12Copy, hc, cl_spec_GateOk, hk, cl_spec_l01In, sem_spec_l01In, cl_spec_l12In, sem_spec_l12In, decide_true, decide_false, Bool.not_true, Bool.not_false, e]
  · have hr := gateOk_range hg
    simp only [hg] at hk
    by_cases hi : 0 ≤ i ∧ i ≤ 3
    · by_cases hm : o = i ∨ i ∈ w ∨ i ∈ q
      · have e : arriveG ⟨o, w, q⟩ i = (⟨o, w, q⟩, false) := by simp [arriveG, hm]
        by_cases m1 : o = i
        · simp only [m1] at hc hk e hg ⊢
          simp (maxSteps := 10000000) (disch := first | assumption | omega) only [cGate, F_spec_Arrive, params, EG, EL, simprocAttr, FB, ED, FT, cx_spec_Arrive, cl_spec_l12Copy, hc, cl_spec_GateOk, hk, cl_spec_l01In, sem_spec_l01In, cl_spec_l12In, sem_spec_l12In, decide_true, decide_false, Bool.not_true, Bool.not_false, e, hi, and_self]
        · by_cases m2 : i ∈ w
          · simp (maxSteps := 10000000) (disch := first | assumption | omega) only [cGate, F_spec_Arrive, params, EG, EL, simprocAttr, FB, ED, FT, cx_spec_Arrive, cl_spec_l12Copy, hc, cl_spec_GateOk, hk, cl_spec_l01In, sem_spec_l01In, cl_spec_l12In, sem_spec_l12In, decide_true, decide_false, Bool.not_true, Bool.not_false, e, hi, m1, m2, and_self]
          · have m3 : i ∈ q := by rcases hm with h | h | h <;> first | exact absurd h m1 | exact absurd h m2 | exact h
            simp (maxSteps := 10000000) (disch := first | assumption | omega) only [cGate, F_spec_Arrive, params, EG, EL, simprocAttr, FB, ED, FT, cx_spec_Arrive, cl_spec_l12Copy, hc, cl_spec_GateOk, hk, cl_spec_l01In, sem_spec_l01In, cl_spec_l12In, sem_spec_l12In, decide_true, decide_false, Bool.not_true, Bool.not_false, e, hi, m1, m2, m3, and_self]
      · have e : arriveG ⟨o, w, q⟩ i = if o = -1 then (⟨i, w, q⟩, true) else (⟨o, w ++ [i], q⟩, false) := by unfold arriveG; rw [if_pos ⟨hg, hi, hm⟩]
        have m1 : ¬ o = i := fun h => hm (Or.inl h)
        have m2 : i ∉ w := fun h => hm (Or.inr (Or.inl h))
        have m3 : i ∉ q := fun h => hm (Or.inr (Or.inr h))
        have hmg : i ∉ inGate o w q := fun h => hm ((mem_inGate hi.1).1 h)
        rw [e]
        by_cases ho : o = -1
        · subst ho
          have ho' : (-1 : Int) < 0 := by omega
          simp (maxSteps := 10000000) (disch := first | assumption | omega) only [cGate, F_spec_Arrive, params, EG, EL, simprocAttr, FB, ED, FT, cx_spec_Arrive, cl_spec_l12Copy, hc, cl_spec_GateOk, hk, cl_spec_l01In, sem_spec_l01In, cl_spec_l12In, sem_spec_l12In, decide_true, decide_false, Bool.not_true, Bool.not_false, hi, m1, m2, m3, hmg, ho', and_self]
        · have ho' : ¬ o < 0 := by omega
          simp (maxSteps := 10000000) (disch := first | assumption | omega) only [cGate, F_spec_Arrive, params, EG, EL, simprocAttr, FB, ED, FT, cx_spec_Arrive, cl_spec_l12Copy, hc, cl_spec_GateOk, hk, cl_spec_l01In, sem_spec_l01In, cl_spec_l12In, sem_spec_l12In, decide_true, decide_false, Bool.not_true, Bool.not_false, hi, m1, m2, m3, hmg, ho, ho', and_self, hw1, map_cI_snoc]
    · have e : arriveG ⟨o, w, q⟩ i = (⟨o, w, q⟩, false) := by
        unfold arriveG; rw [if_neg (fun h => hi h.2.1)]
      simp (maxSteps := 10000000) (disch := first | assumption | omega) only [cGate, F_spec_Arrive, params, EG, EL, simprocAttr, FB, ED, FT, cx_spec_Arrive, cl_spec_l12Copy, hc, cl_spec_GateOk, hk, cl_spec_l01In, sem_spec_l01In, cl_spec_l12In, sem_spec_l12In, decide_true, decide_false, Bool.not_true, Bool.not_false, e, hi]
set_option maxHeartbeats 4000000 in
theorem sem_impl_Arrive (x : DGate) (h : x.Waits.length + x.Queues.length ≤ 1048576) (i : Int) : S_impl_Arrive.sem [.agg (cGate x), .int .i64 i] = some (.tup [.agg (cGate (arriveG x i).1), .bool (arriveG x i).2], []) := by
  have hc := sem_impl_copyGate x (Nat.le_trans h (by omega))
  have hk := sem_impl_GateOk x (Nat.le_trans h (by omega))
  have hig := sem_impl_inGate x (Nat.le_trans h (by omega))
  obtain ⟨o, w, q⟩ := x
  simp only at h hc hk
  have hil : (inGate o w q).length ≤ 140737488351232 := by have := inGate_len o w q; omega
  have hl1 : w.length ≤ 140737488351232 := by omega
  have hl2 : q.length ≤ 140737488351232 := by omega
  have hw1 : (w.length + 1) * 8 ≤ 70368744177664 := by omega
  rw [sg_impl_Arrive, sem_go]
  cases hg : gateOk o w q
  · have e : arriveG ⟨o, w, q⟩ i = (⟨o, w, q⟩, false) := by simp [arriveG, hg]
    simp only [hg] at hk
    simp (maxSteps := 10000000) (disch := first | assumption | omega) only [cGate, F_impl_Arrive, params, EG, EL, simprocAttr, FB, ED, FT, cx_impl_Arrive, cl_impl_copyGate, hc, cl_impl_GateOk, hk, cl_impl_within, sem_impl_within, cl_impl_inGate, hig, cl_slices_Contains_int_int, sem_slices_Contains_int_int, decide_true, decide_false, Bool.not_true, Bool.not_false, e]
  · have hr := gateOk_range hg
    simp only [hg] at hk
    by_cases hi : 0 ≤ i ∧ i ≤ 3
    · by_cases hm : o = i ∨ i ∈ w ∨ i ∈ q
      · have e : arriveG ⟨o, w, q⟩ i = (⟨o, w, q⟩, false) := by simp [arriveG, hm]
        have hmg : i ∈ inGate o w q := (mem_inGate hi.1).2 hm
        simp (maxSteps := 10000000) (disch := first | assumption | omega) only [cGate, F_impl_Arrive, params, EG, EL, simprocAttr, FB, ED, FT, cx_impl_Arrive, cl_impl_copyGate, hc, cl_impl_GateOk, hk, cl_impl_within, sem_impl_within, cl_impl_inGate, hig, cl_slices_Contains_int_int, sem_slices_Contains_int_int, decide_true, decide_false, Bool.not_true, Bool.not_false, e, hi, hmg, and_self]
      · have e : arriveG ⟨o, w, q⟩ i = if o = -1 then (⟨i, w, q⟩, true) else (⟨o, w ++ [i], q⟩, false) := by unfold arriveG; rw [if_pos ⟨hg, hi, hm⟩]
        have m1 : ¬ o = i := fun h => hm (Or.inl h)
        have m2 : i ∉ w := fun h => hm (Or.inr (Or.inl h))
        have m3 : i ∉ q := fun h => hm (Or.inr (Or.inr h))
        have hmg : i ∉ inGate o w q := fun h => hm ((mem_inGate hi.1).1 h)
        rw [e]
        by_cases ho : o = -1
        · subst ho
          have ho' : (-1 : Int) < 0 := by omega
          simp (maxSteps := 10000000) (disch := first | assumption | omega) only [cGate, F_impl_Arrive, params, EG, EL, simprocAttr, FB, ED, FT, cx_impl_Arrive, cl_impl_copyGate, hc, cl_impl_GateOk, hk, cl_impl_within, sem_impl_within, cl_impl_inGate, hig, cl_slices_Contains_int_int, sem_slices_Contains_int_int, decide_true, decide_false, Bool.not_true, Bool.not_false, hi, m1, m2, m3, hmg, ho', and_self]
        · have ho' : ¬ o < 0 := by omega
          simp (maxSteps := 10000000) (disch := first | assumption | omega) only [cGate, F_impl_Arrive, params, EG, EL, simprocAttr, FB, ED, FT, cx_impl_Arrive, cl_impl_copyGate, hc, cl_impl_GateOk, hk, cl_impl_within, sem_impl_within, cl_impl_inGate, hig, cl_slices_Contains_int_int, sem_slices_Contains_int_int, decide_true, decide_false, Bool.not_true, Bool.not_false, hi, m1, m2, m3, hmg, ho, ho', and_self, hw1, map_cI_snoc]
    · have e : arriveG ⟨o, w, q⟩ i = (⟨o, w, q⟩, false) := by
        unfold arriveG; rw [if_neg (fun h => hi h.2.1)]
      simp (maxSteps := 10000000) (disch := first | assumption | omega) only [cGate, F_impl_Arrive, params, EG, EL, simprocAttr, FB, ED, FT, cx_impl_Arrive, cl_impl_copyGate, hc, cl_impl_GateOk, hk, cl_impl_within, sem_impl_within, cl_impl_inGate, hig, cl_slices_Contains_int_int, sem_slices_Contains_int_int, decide_true, decide_false, Bool.not_true, Bool.not_false, e, hi]
theorem sem_spec_l15Copy (x : DCore) (h : x.Regs.length ≤ 1048576) : S_spec_l15Copy.sem [.agg (cCore x)] = some (.agg (cCore x), []) := by
  have h1 : x.Regs.length * 8 ≤ 70368744177664 := by omega
  rw [sg_spec_l15Copy, sem_go]
  simp (maxSteps := 10000000) (disch := first | assumption | omega) only [F_spec_l15Copy, params, EG, EL, simprocAttr, FB, ED, cx_spec_l15Copy, h1]
theorem sem_impl_copyCore (x : DCore) (h : x.Regs.length ≤ 1048576) : S_impl_copyCore.sem [.agg (cCore x)] = some (.agg (cCore x), []) := by
  have h1 : x.Regs.length * 8 ≤ 70368744177664 := by omega
  rw [sg_impl_copyCore, sem_go]
  simp (maxSteps := 10000000) (disch := first | assumption | omega) only [F_impl_copyCore, params, EG, EL, simprocAttr, FB, ED, cx_impl_copyCore, h1]
theorem sem_spec_l20Copy (x : DKernel) (hg : x.Gates.length ≤ 1048576) (hs : x.Saved.length ≤ 1048576) (hr : x.Ready.length ≤ 1048576) (ho : x.Over.length ≤ 1048576) (hG : ∀ y ∈ x.Gates, y.Waits.length + y.Queues.length ≤ 1048576) (hC : ∀ y ∈ x.Saved, y.Regs.length ≤ 1048576) : S_spec_l20Copy.sem [.agg (cKernel x)] = some (.agg (cKernel x), []) := by
  have h1 : x.Ready.length * 8 ≤ 70368744177664 := by omega
  have h2 : x.Over.length * 1 ≤ 70368744177664 := by omega
  have loop0 : loopV X_spec_l20Copy 0 [1, 2, 3, 4] [(1, [1, 2, 3])] B0_spec_l20Copy ⟨[(1, .ptr ⟨0, none, 0⟩ 4 0 0), (2, .ptr ⟨1, none, 0⟩ 4 0 0), (3, .ptr ⟨6, none, 0⟩ 4 0 0), (4, .int .i64 0)], [some ⟨true, 0, 4, [cKernel x]⟩, some ⟨true, 0, 4, [[.sl ⟨2, none, 0⟩ 3 0 0, .sl ⟨3, none, 0⟩ 1 0 0, .sl ⟨4, none, 0⟩ 3 0 0, .sl ⟨5, none, 0⟩ 1 0 0]]⟩, some ⟨false, 0, 3, []⟩, some ⟨false, 0, 1, []⟩, some ⟨false, 0, 3, []⟩, some ⟨false, 0, 1, []⟩, some ⟨true, 0, 4, [[.sl ⟨7, none, 0⟩ 3 0 ([] : List DGate).length, .sl ⟨8, none, 0⟩ 1 0 x.Ready.length, .sl ⟨9, none, 0⟩ 3 0 ([] : List DCore).length, .sl ⟨10, none, 0⟩ 1 0 x.Over.length]]⟩, some ⟨false, 0, 3, ([] : List DGate).map cGate⟩, some ⟨false, 0, 1, x.Ready.map cI⟩, some ⟨false, 0, 3, ([] : List DCore).map cCore⟩, some ⟨false, 0, 1, x.Over.map cB⟩]⟩ = some (.exit 0, ⟨[(1, .ptr ⟨0, none, 0⟩ 4 0 0), (2, .ptr ⟨1, none, 0⟩ 4 0 0), (3, .ptr ⟨6, none, 0⟩ 4 0 0)], [some ⟨true, 0, 4, [cKernel x]⟩, some ⟨true, 0, 4, [[.sl ⟨2, none, 0⟩ 3 0 0, .sl ⟨3, none, 0⟩ 1 0 0, .sl ⟨4, none, 0⟩ 3 0 0, .sl ⟨5, none, 0⟩ 1 0 0]]⟩, some ⟨false, 0, 3, []⟩, some ⟨false, 0, 1, []⟩, some ⟨false, 0, 3, []⟩, some ⟨false, 0, 1, []⟩, some ⟨true, 0, 4, [[.sl ⟨7, none, 0⟩ 3 0 x.Gates.length, .sl ⟨8, none, 0⟩ 1 0 x.Ready.length, .sl ⟨9, none, 0⟩ 3 0 ([] : List DCore).length, .sl ⟨10, none, 0⟩ 1 0 x.Over.length]]⟩, some ⟨false, 0, 3, x.Gates.map cGate⟩, some ⟨false, 0, 1, x.Ready.map cI⟩, some ⟨false, 0, 3, ([] : List DCore).map cCore⟩, some ⟨false, 0, 1, x.Over.map cB⟩]⟩) := by
    refine loop_list x.Gates (fun i (gs : List DGate) => gs.length = i) (fun i gs => ⟨[(1, .ptr ⟨0, none, 0⟩ 4 0 0), (2, .ptr ⟨1, none, 0⟩ 4 0 0), (3, .ptr ⟨6, none, 0⟩ 4 0 0), (4, .int .i64 ((i : Nat) : Int))], [some ⟨true, 0, 4, [cKernel x]⟩, some ⟨true, 0, 4, [[.sl ⟨2, none, 0⟩ 3 0 0, .sl ⟨3, none, 0⟩ 1 0 0, .sl ⟨4, none, 0⟩ 3 0 0, .sl ⟨5, none, 0⟩ 1 0 0]]⟩, some ⟨false, 0, 3, []⟩, some ⟨false, 0, 1, []⟩, some ⟨false, 0, 3, []⟩, some ⟨false, 0, 1, []⟩, some ⟨true, 0, 4, [[.sl ⟨7, none, 0⟩ 3 0 gs.length, .sl ⟨8, none, 0⟩ 1 0 x.Ready.length, .sl ⟨9, none, 0⟩ 3 0 ([] : List DCore).length, .sl ⟨10, none, 0⟩ 1 0 x.Over.length]]⟩, some ⟨false, 0, 3, gs.map cGate⟩, some ⟨false, 0, 1, x.Ready.map cI⟩, some ⟨false, 0, 3, ([] : List DCore).map cCore⟩, some ⟨false, 0, 1, x.Over.map cB⟩]⟩) (fun rest gs => some (.exit 0, ⟨[(1, .ptr ⟨0, none, 0⟩ 4 0 0), (2, .ptr ⟨1, none, 0⟩ 4 0 0), (3, .ptr ⟨6, none, 0⟩ 4 0 0)], [some ⟨true, 0, 4, [cKernel x]⟩, some ⟨true, 0, 4, [[.sl ⟨2, none, 0⟩ 3 0 0, .sl ⟨3, none, 0⟩ 1 0 0, .sl ⟨4, none, 0⟩ 3 0 0, .sl ⟨5, none, 0⟩ 1 0 0]]⟩, some ⟨false, 0, 3, []⟩, some ⟨false, 0, 1, []⟩, some ⟨false, 0, 3, []⟩, some ⟨false, 0, 1, []⟩, some ⟨true, 0, 4, [[.sl ⟨7, none, 0⟩ 3 0 (gs ++ rest).length, .sl ⟨8, none, 0⟩ 1 0 x.Ready.length, .sl ⟨9, none, 0⟩ 3 0 ([] : List DCore).length, .sl ⟨10, none, 0⟩ 1 0 x.Over.length]]⟩, some ⟨false, 0, 3, (gs ++ rest).map cGate⟩, some ⟨false, 0, 1, x.Ready.map cI⟩, some ⟨false, 0, 3, ([] : List DCore).map cCore⟩, some ⟨false, 0, 1, x.Over.map cB⟩]⟩)) ?_ ?_ [] rfl
    · rintro gs hl
      rw [loopV_by B0_spec_l20Copy.eq_1]
      simp only [EG, EL, simprocAttr, FB, int_lt_irrefl, List.append_nil]
    · rintro i hi0 y rest gs rfl rfl hl ih
      have hi : (i : Int) < (x.Gates.length : Int) := by omega
      have hc : (gs.length + 1) * 56 ≤ 70368744177664 := by omega
      have hb := hG _ (List.getElem_mem hi0)
      have i1 := ih (gs ++ [x.Gates[i]]) (by simp; omega)
      try simp only [EG, EL, simprocAttr, FB, List.append_assoc] at i1
      rw [loopV_by B0_spec_l20Copy.eq_1]
      simp (maxSteps := 10000000) (disch := first | assumption | omega) only [EG, EL, simprocAttr, FB, ED, FT, hi, wrap_succ, getRow _ _ hi0, hc, cx_spec_l20Copy, cl_spec_l12Copy, sem_spec_l12Copy]
      try simp only [cKernel, EG, EL, simprocAttr, FB, List.append_assoc] at i1
      try simp only [cKernel, EG, EL, simprocAttr, FB, List.append_assoc]
      exact i1
  have loop1 : loopV X_spec_l20Copy 0 [1, 2, 3, 5] [(3, [2, 3])] B1_spec_l20Copy ⟨[(1, .ptr ⟨0, none, 0⟩ 4 0 0), (2, .ptr ⟨1, none, 0⟩ 4 0 0), (3, .ptr ⟨6, none, 0⟩ 4 0 0), (5, .int .i64 0)], [some ⟨true, 0, 4, [cKernel x]⟩, some ⟨true, 0, 4, [[.sl ⟨2, none, 0⟩ 3 0 0, .sl ⟨3, none, 0⟩ 1 0 0, .sl ⟨4, none, 0⟩ 3 0 0, .sl ⟨5, none, 0⟩ 1 0 0]]⟩, some ⟨false, 0, 3, []⟩, some ⟨false, 0, 1, []⟩, some ⟨false, 0, 3, []⟩, some ⟨false, 0, 1, []⟩, some ⟨true, 0, 4, [[.sl ⟨7, none, 0⟩ 3 0 x.Gates.length, .sl ⟨8, none, 0⟩ 1 0 x.Ready.length, .sl ⟨9, none, 0⟩ 3 0 ([] : List DCore).length, .sl ⟨10, none, 0⟩ 1 0 x.Over.length]]⟩, some ⟨false, 0, 3, x.Gates.map cGate⟩, some ⟨false, 0, 1, x.Ready.map cI⟩, some ⟨false, 0, 3, ([] : List DCore).map cCore⟩, some ⟨false, 0, 1, x.Over.map cB⟩]⟩ = some (.exit 2, ⟨[(2, .ptr ⟨0, none, 0⟩ 4 0 0), (3, .ptr ⟨5, none, 0⟩ 4 0 0)], [some ⟨true, 0, 4, [[.sl ⟨1, none, 0⟩ 3 0 0, .sl ⟨2, none, 0⟩ 1 0 0, .sl ⟨3, none, 0⟩ 3 0 0, .sl ⟨4, none, 0⟩ 1 0 0]]⟩, some ⟨false, 0, 3, []⟩, some ⟨false, 0, 1, []⟩, some ⟨false, 0, 3, []⟩, some ⟨false, 0, 1, []⟩, some ⟨true, 0, 4, [[.sl ⟨6, none, 0⟩ 3 0 x.Gates.length, .sl ⟨7, none, 0⟩ 1 0 x.Ready.length, .sl ⟨8, none, 0⟩ 3 0 x.Saved.length, .sl ⟨9, none, 0⟩ 1 0 x.Over.length]]⟩, some ⟨false, 0, 3, x.Gates.map cGate⟩, some ⟨false, 0, 1, x.Ready.map cI⟩, some ⟨false, 0, 3, x.Saved.map cCore⟩, some ⟨false, 0, 1, x.Over.map cB⟩]⟩) := by
    refine loop_list x.Saved (fun i (cs : List DCore) => cs.length = i) (fun i cs => ⟨[(1, .ptr ⟨0, none, 0⟩ 4 0 0), (2, .ptr ⟨1, none, 0⟩ 4 0 0), (3, .ptr ⟨6, none, 0⟩ 4 0 0), (5, .int .i64 ((i : Nat) : Int))], [some ⟨true, 0, 4, [cKernel x]⟩, some ⟨true, 0, 4, [[.sl ⟨2, none, 0⟩ 3 0 0, .sl ⟨3, none, 0⟩ 1 0 0, .sl ⟨4, none, 0⟩ 3 0 0, .sl ⟨5, none, 0⟩ 1 0 0]]⟩, some ⟨false, 0, 3, []⟩, some ⟨false, 0, 1, []⟩, some ⟨false, 0, 3, []⟩, some ⟨false, 0, 1, []⟩, some ⟨true, 0, 4, [[.sl ⟨7, none, 0⟩ 3 0 x.Gates.length, .sl ⟨8, none, 0⟩ 1 0 x.Ready.length, .sl ⟨9, none, 0⟩ 3 0 cs.length, .sl ⟨10, none, 0⟩ 1 0 x.Over.length]]⟩, some ⟨false, 0, 3, x.Gates.map cGate⟩, some ⟨false, 0, 1, x.Ready.map cI⟩, some ⟨false, 0, 3, cs.map cCore⟩, some ⟨false, 0, 1, x.Over.map cB⟩]⟩) (fun rest cs => some (.exit 2, ⟨[(2, .ptr ⟨0, none, 0⟩ 4 0 0), (3, .ptr ⟨5, none, 0⟩ 4 0 0)], [some ⟨true, 0, 4, [[.sl ⟨1, none, 0⟩ 3 0 0, .sl ⟨2, none, 0⟩ 1 0 0, .sl ⟨3, none, 0⟩ 3 0 0, .sl ⟨4, none, 0⟩ 1 0 0]]⟩, some ⟨false, 0, 3, []⟩, some ⟨false, 0, 1, []⟩, some ⟨false, 0, 3, []⟩, some ⟨false, 0, 1, []⟩, some ⟨true, 0, 4, [[.sl ⟨6, none, 0⟩ 3 0 x.Gates.length, .sl ⟨7, none, 0⟩ 1 0 x.Ready.length, .sl ⟨8, none, 0⟩ 3 0 (cs ++ rest).length, .sl ⟨9, none, 0⟩ 1 0 x.Over.length]]⟩, some ⟨false, 0, 3, x.Gates.map cGate⟩, some ⟨false, 0, 1, x.Ready.map cI⟩, some ⟨false, 0, 3, (cs ++ rest).map cCore⟩, some ⟨false, 0, 1, x.Over.map cB⟩]⟩)) ?_ ?_ [] rfl
    · rintro cs hl
      rw [loopV_by B1_spec_l20Copy.eq_1]
      simp only [EG, EL, simprocAttr, FB, int_lt_irrefl, List.append_nil]
    · rintro i hi0 y rest cs rfl rfl hl ih
      have hi : (i : Int) < (x.Saved.length : Int) := by omega
      have hc : (cs.length + 1) * 40 ≤ 70368744177664 := by omega
      have hb := hC _ (List.getElem_mem hi0)
      have i1 := ih (cs ++ [x.Saved[i]]) (by simp; omega)
      try simp only [EG, EL, simprocAttr, FB, List.append_assoc] at i1
      rw [loopV_by B1_spec_l20Copy.eq_1]
      simp (maxSteps := 10000000) (disch := first | assumption | omega) only [EG, EL, simprocAttr, FB, ED, FT, hi, wrap_succ, getRow _ _ hi0, hc, cx_spec_l20Copy, cl_spec_l15Copy, sem_spec_l15Copy]
      try simp only [cKernel, EG, EL, simprocAttr, FB, List.append_assoc] at i1
      try simp only [cKernel, EG, EL, simprocAttr, FB, List.append_assoc]
      exact i1
  try simp only [EG, EL, simprocAttr, FB] at loop0
  try simp only [EG, EL, simprocAttr, FB] at loop1
  rw [sg_spec_l20Copy, sem_go]
  simp (maxSteps := 10000000) (disch := first | assumption | omega) only [F_spec_l20Copy, params, EG, EL, simprocAttr, FB, ED, FT, cx_spec_l20Copy, h1, h2, loop0, loop1]
theorem sem_impl_copyKernel (x : DKernel) (hg : x.Gates.length ≤ 1048576) (hs : x.Saved.length ≤ 1048576) (hr : x.Ready.length ≤ 1048576) (ho : x.Over.length ≤ 1048576) (hG : ∀ y ∈ x.Gates, y.Waits.length + y.Queues.length ≤ 1048576) (hC : ∀ y ∈ x.Saved, y.Regs.length ≤ 1048576) : S_impl_copyKernel.sem [.agg (cKernel x)] = some (.agg (cKernel x), []) := by
  have h1 : x.Ready.length * 8 ≤ 70368744177664 := by omega
  have h2 : x.Over.length * 1 ≤ 70368744177664 := by omega
  have loop0 : loopV X_impl_copyKernel 0 [1, 2, 3, 16, 17, 18] [(1, [1, 2, 3])] B0_impl_copyKernel ⟨[(1, .ptr ⟨0, none, 0⟩ 4 0 0), (2, .ptr ⟨1, none, 0⟩ 4 0 0), (3, .ptr ⟨6, none, 0⟩ 4 0 0), (16, .tree 3 (x.Gates.map cGate)), (17, .int .i64 x.Gates.length), (18, .int .i64 0)], [some ⟨true, 0, 4, [cKernel x]⟩, some ⟨true, 0, 4, [[.sl ⟨2, none, 0⟩ 3 0 0, .sl ⟨3, none, 0⟩ 1 0 0, .sl ⟨4, none, 0⟩ 3 0 0, .sl ⟨5, none, 0⟩ 1 0 0]]⟩, some ⟨false, 0, 3, []⟩, some ⟨false, 0, 1, []⟩, some ⟨false, 0, 3, []⟩, some ⟨false, 0, 1, []⟩, some ⟨true, 0, 4, [[.sl ⟨7, none, 0⟩ 3 0 ([] : List DGate).length, .sl ⟨8, none, 0⟩ 1 0 x.Ready.length, .sl ⟨9, none, 0⟩ 3 0 ([] : List DCore).length, .sl ⟨10, none, 0⟩ 1 0 x.Over.length]]⟩, some ⟨false, 0, 3, ([] : List DGate).map cGate⟩, some ⟨false, 0, 1, x.Ready.map cI⟩, some ⟨false, 0, 3, ([] : List DCore).map cCore⟩, some ⟨false, 0, 1, x.Over.map cB⟩]⟩ = some (.exit 0, ⟨[(1, .ptr ⟨0, none, 0⟩ 4 0 0), (2, .ptr ⟨1, none, 0⟩ 4 0 0), (3, .ptr ⟨6, none, 0⟩ 4 0 0)], [some ⟨true, 0, 4, [cKernel x]⟩, some ⟨true, 0, 4, [[.sl ⟨2, none, 0⟩ 3 0 0, .sl ⟨3, none, 0⟩ 1 0 0, .sl ⟨4, none, 0⟩ 3 0 0, .sl ⟨5, none, 0⟩ 1 0 0]]⟩, some ⟨false, 0, 3, []⟩, some ⟨false, 0, 1, []⟩, some ⟨false, 0, 3, []⟩, some ⟨false, 0, 1, []⟩, some ⟨true, 0, 4, [[.sl ⟨7, none, 0⟩ 3 0 x.Gates.length, .sl ⟨8, none, 0⟩ 1 0 x.Ready.length, .sl ⟨9, none, 0⟩ 3 0 ([] : List DCore).length, .sl ⟨10, none, 0⟩ 1 0 x.Over.length]]⟩, some ⟨false, 0, 3, x.Gates.map cGate⟩, some ⟨false, 0, 1, x.Ready.map cI⟩, some ⟨false, 0, 3, ([] : List DCore).map cCore⟩, some ⟨false, 0, 1, x.Over.map cB⟩]⟩) := by
    refine loop_list x.Gates (fun i (gs : List DGate) => gs.length = i) (fun i gs => ⟨[(1, .ptr ⟨0, none, 0⟩ 4 0 0), (2, .ptr ⟨1, none, 0⟩ 4 0 0), (3, .ptr ⟨6, none, 0⟩ 4 0 0), (16, .tree 3 (x.Gates.map cGate)), (17, .int .i64 x.Gates.length), (18, .int .i64 ((i : Nat) : Int))], [some ⟨true, 0, 4, [cKernel x]⟩, some ⟨true, 0, 4, [[.sl ⟨2, none, 0⟩ 3 0 0, .sl ⟨3, none, 0⟩ 1 0 0, .sl ⟨4, none, 0⟩ 3 0 0, .sl ⟨5, none, 0⟩ 1 0 0]]⟩, some ⟨false, 0, 3, []⟩, some ⟨false, 0, 1, []⟩, some ⟨false, 0, 3, []⟩, some ⟨false, 0, 1, []⟩, some ⟨true, 0, 4, [[.sl ⟨7, none, 0⟩ 3 0 gs.length, .sl ⟨8, none, 0⟩ 1 0 x.Ready.length, .sl ⟨9, none, 0⟩ 3 0 ([] : List DCore).length, .sl ⟨10, none, 0⟩ 1 0 x.Over.length]]⟩, some ⟨false, 0, 3, gs.map cGate⟩, some ⟨false, 0, 1, x.Ready.map cI⟩, some ⟨false, 0, 3, ([] : List DCore).map cCore⟩, some ⟨false, 0, 1, x.Over.map cB⟩]⟩) (fun rest gs => some (.exit 0, ⟨[(1, .ptr ⟨0, none, 0⟩ 4 0 0), (2, .ptr ⟨1, none, 0⟩ 4 0 0), (3, .ptr ⟨6, none, 0⟩ 4 0 0)], [some ⟨true, 0, 4, [cKernel x]⟩, some ⟨true, 0, 4, [[.sl ⟨2, none, 0⟩ 3 0 0, .sl ⟨3, none, 0⟩ 1 0 0, .sl ⟨4, none, 0⟩ 3 0 0, .sl ⟨5, none, 0⟩ 1 0 0]]⟩, some ⟨false, 0, 3, []⟩, some ⟨false, 0, 1, []⟩, some ⟨false, 0, 3, []⟩, some ⟨false, 0, 1, []⟩, some ⟨true, 0, 4, [[.sl ⟨7, none, 0⟩ 3 0 (gs ++ rest).length, .sl ⟨8, none, 0⟩ 1 0 x.Ready.length, .sl ⟨9, none, 0⟩ 3 0 ([] : List DCore).length, .sl ⟨10, none, 0⟩ 1 0 x.Over.length]]⟩, some ⟨false, 0, 3, (gs ++ rest).map cGate⟩, some ⟨false, 0, 1, x.Ready.map cI⟩, some ⟨false, 0, 3, ([] : List DCore).map cCore⟩, some ⟨false, 0, 1, x.Over.map cB⟩]⟩)) ?_ ?_ [] rfl
    · rintro gs hl
      rw [loopV_by B0_impl_copyKernel.eq_1]
      simp only [EG, EL, simprocAttr, FB, int_lt_irrefl, List.append_nil]
    · rintro i hi0 y rest gs rfl rfl hl ih
      have hi : (i : Int) < (x.Gates.length : Int) := by omega
      have hc : (gs.length + 1) * 56 ≤ 70368744177664 := by omega
      have hb := hG _ (List.getElem_mem hi0)
      have i1 := ih (gs ++ [x.Gates[i]]) (by simp; omega)
      try simp only [EG, EL, simprocAttr, FB, List.append_assoc] at i1
      rw [loopV_by B0_impl_copyKernel.eq_1]
      simp (maxSteps := 10000000) (disch := first | assumption | omega) only [EG, EL, simprocAttr, FB, ED, FT, hi, wrap_succ, getRow _ _ hi0, hc, cx_impl_copyKernel, cl_impl_copyGate, sem_impl_copyGate]
      try simp only [cKernel, EG, EL, simprocAttr, FB, List.append_assoc] at i1
      try simp only [cKernel, EG, EL, simprocAttr, FB, List.append_assoc]
      exact i1
  have loop1 : loopV X_impl_copyKernel 0 [2, 3, 31, 32, 33] [(3, [2, 3])] B1_impl_copyKernel ⟨[(2, .ptr ⟨0, none, 0⟩ 4 0 0), (3, .ptr ⟨5, none, 0⟩ 4 0 0), (31, .tree 3 (x.Saved.map cCore)), (32, .int .i64 x.Saved.length), (33, .int .i64 0)], [some ⟨true, 0, 4, [[.sl ⟨1, none, 0⟩ 3 0 0, .sl ⟨2, none, 0⟩ 1 0 0, .sl ⟨3, none, 0⟩ 3 0 0, .sl ⟨4, none, 0⟩ 1 0 0]]⟩, some ⟨false, 0, 3, []⟩, some ⟨false, 0, 1, []⟩, some ⟨false, 0, 3, []⟩, some ⟨false, 0, 1, []⟩, some ⟨true, 0, 4, [[.sl ⟨6, none, 0⟩ 3 0 x.Gates.length, .sl ⟨7, none, 0⟩ 1 0 x.Ready.length, .sl ⟨8, none, 0⟩ 3 0 ([] : List DCore).length, .sl ⟨9, none, 0⟩ 1 0 x.Over.length]]⟩, some ⟨false, 0, 3, x.Gates.map cGate⟩, some ⟨false, 0, 1, x.Ready.map cI⟩, some ⟨false, 0, 3, ([] : List DCore).map cCore⟩, some ⟨false, 0, 1, x.Over.map cB⟩]⟩ = some (.exit 2, ⟨[(2, .ptr ⟨0, none, 0⟩ 4 0 0), (3, .ptr ⟨5, none, 0⟩ 4 0 0)], [some ⟨true, 0, 4, [[.sl ⟨1, none, 0⟩ 3 0 0, .sl ⟨2, none, 0⟩ 1 0 0, .sl ⟨3, none, 0⟩ 3 0 0, .sl ⟨4, none, 0⟩ 1 0 0]]⟩, some ⟨false, 0, 3, []⟩, some ⟨false, 0, 1, []⟩, some ⟨false, 0, 3, []⟩, some ⟨false, 0, 1, []⟩, some ⟨true, 0, 4, [[.sl ⟨6, none, 0⟩ 3 0 x.Gates.length, .sl ⟨7, none, 0⟩ 1 0 x.Ready.length, .sl ⟨8, none, 0⟩ 3 0 x.Saved.length, .sl ⟨9, none, 0⟩ 1 0 x.Over.length]]⟩, some ⟨false, 0, 3, x.Gates.map cGate⟩, some ⟨false, 0, 1, x.Ready.map cI⟩, some ⟨false, 0, 3, x.Saved.map cCore⟩, some ⟨false, 0, 1, x.Over.map cB⟩]⟩) := by
    refine loop_list x.Saved (fun i (cs : List DCore) => cs.length = i) (fun i cs => ⟨[(2, .ptr ⟨0, none, 0⟩ 4 0 0), (3, .ptr ⟨5, none, 0⟩ 4 0 0), (31, .tree 3 (x.Saved.map cCore)), (32, .int .i64 x.Saved.length), (33, .int .i64 ((i : Nat) : Int))], [some ⟨true, 0, 4, [[.sl ⟨1, none, 0⟩ 3 0 0, .sl ⟨2, none, 0⟩ 1 0 0, .sl ⟨3, none, 0⟩ 3 0 0, .sl ⟨4, none, 0⟩ 1 0 0]]⟩, some ⟨false, 0, 3, []⟩, some ⟨false, 0, 1, []⟩, some ⟨false, 0, 3, []⟩, some ⟨false, 0, 1, []⟩, some ⟨true, 0, 4, [[.sl ⟨6, none, 0⟩ 3 0 x.Gates.length, .sl ⟨7, none, 0⟩ 1 0 x.Ready.length, .sl ⟨8, none, 0⟩ 3 0 cs.length, .sl ⟨9, none, 0⟩ 1 0 x.Over.length]]⟩, some ⟨false, 0, 3, x.Gates.map cGate⟩, some ⟨false, 0, 1, x.Ready.map cI⟩, some ⟨false, 0, 3, cs.map cCore⟩, some ⟨false, 0, 1, x.Over.map cB⟩]⟩) (fun rest cs => some (.exit 2, ⟨[(2, .ptr ⟨0, none, 0⟩ 4 0 0), (3, .ptr ⟨5, none, 0⟩ 4 0 0)], [some ⟨true, 0, 4, [[.sl ⟨1, none, 0⟩ 3 0 0, .sl ⟨2, none, 0⟩ 1 0 0, .sl ⟨3, none, 0⟩ 3 0 0, .sl ⟨4, none, 0⟩ 1 0 0]]⟩, some ⟨false, 0, 3, []⟩, some ⟨false, 0, 1, []⟩, some ⟨false, 0, 3, []⟩, some ⟨false, 0, 1, []⟩, some ⟨true, 0, 4, [[.sl ⟨6, none, 0⟩ 3 0 x.Gates.length, .sl ⟨7, none, 0⟩ 1 0 x.Ready.length, .sl ⟨8, none, 0⟩ 3 0 (cs ++ rest).length, .sl ⟨9, none, 0⟩ 1 0 x.Over.length]]⟩, some ⟨false, 0, 3, x.Gates.map cGate⟩, some ⟨false, 0, 1, x.Ready.map cI⟩, some ⟨false, 0, 3, (cs ++ rest).map cCore⟩, some ⟨false, 0, 1, x.Over.map cB⟩]⟩)) ?_ ?_ [] rfl
    · rintro cs hl
      rw [loopV_by B1_impl_copyKernel.eq_1]
      simp only [EG, EL, simprocAttr, FB, int_lt_irrefl, List.append_nil]
    · rintro i hi0 y rest cs rfl rfl hl ih
      have hi : (i : Int) < (x.Saved.length : Int) := by omega
      have hc : (cs.length + 1) * 40 ≤ 70368744177664 := by omega
      have hb := hC _ (List.getElem_mem hi0)
      have i1 := ih (cs ++ [x.Saved[i]]) (by simp; omega)
      try simp only [EG, EL, simprocAttr, FB, List.append_assoc] at i1
      rw [loopV_by B1_impl_copyKernel.eq_1]
      simp (maxSteps := 10000000) (disch := first | assumption | omega) only [EG, EL, simprocAttr, FB, ED, FT, hi, wrap_succ, getRow _ _ hi0, hc, cx_impl_copyKernel, cl_impl_copyCore, sem_impl_copyCore]
      try simp only [cKernel, EG, EL, simprocAttr, FB, List.append_assoc] at i1
      try simp only [cKernel, EG, EL, simprocAttr, FB, List.append_assoc]
      exact i1
  try simp only [EG, EL, simprocAttr, FB] at loop0
  try simp only [EG, EL, simprocAttr, FB] at loop1
  rw [sg_impl_copyKernel, sem_go]
  simp (maxSteps := 10000000) (disch := first | assumption | omega) only [F_impl_copyKernel, params, EG, EL, simprocAttr, FB, ED, FT, cx_impl_copyKernel, h1, h2, loop0, loop1]
def coreNew : DCore := ⟨List.replicate 8 0, 0, -1⟩
def holdK (x : DKernel) (c : DCore) : DKernel := if 0 ≤ c.Process ∧ c.Process ≤ (x.Saved.length : Int) - 1 then { x with Saved := x.Saved.set c.Process.toNat c } else x
def wakeK (x : DKernel) (p : Int) : DKernel := if (0 ≤ p ∧ p ≤ (x.Saved.length : Int) - 1) ∧ p ∉ x.Ready then { x with Ready := x.Ready ++ [p] } else x
def pickK (x : DKernel) : DKernel × DCore × Bool := match x.Ready with | [] => (x, coreNew, false) | r :: rs => if 0 ≤ r ∧ r ≤ (x.Saved.length : Int) - 1 then ({ x with Ready := rs }, x.Saved.getD r.toNat coreNew, true) else (x, coreNew, false)
theorem sem_spec_CoreNew : S_spec_CoreNew.sem [] = some (.agg (cCore coreNew), []) := by
  rw [sg_spec_CoreNew, sem_go]
  simp (maxSteps := 10000000) (disch := first | assumption | omega) only [F_spec_CoreNew, params, EG, EL, simprocAttr, FB, ED, cx_spec_CoreNew]
  first | rfl | decide
theorem sem_impl_CoreNew : S_impl_CoreNew.sem [] = some (.agg (cCore coreNew), []) := by
  rw [sg_impl_CoreNew, sem_go]
  simp (maxSteps := 10000000) (disch := first | assumption | omega) only [F_impl_CoreNew, params, EG, EL, simprocAttr, FB, ED, cx_impl_CoreNew]
  first | rfl | decide
theorem sem_impl_Hold (x : DKernel) (hg : x.Gates.length ≤ 1048576) (hs : x.Saved.length ≤ 1048576) (hr : x.Ready.length ≤ 1048576) (ho : x.Over.length ≤ 1048576) (hG : ∀ y ∈ x.Gates, y.Waits.length + y.Queues.length ≤ 1048576) (hC : ∀ y ∈ x.Saved, y.Regs.length ≤ 1048576) (c : DCore) (hc : c.Regs.length ≤ 1048576) : S_impl_Hold.sem [.agg (cKernel x), .agg (cCore c)] = some (.agg (cKernel (holdK x c)), []) := by
  have hk := sem_impl_copyKernel x hg hs hr ho hG hC
  rw [sg_impl_Hold, sem_go]
  by_cases h : 0 ≤ c.Process ∧ c.Process ≤ (x.Saved.length : Int) - 1
  · have hn : c.Process < (x.Saved.length : Int) := by omega
    have hn' : c.Process.toNat < x.Saved.length := by omega
    simp (maxSteps := 10000000) (disch := first | assumption | omega) only [F_impl_Hold, params, EG, EL, simprocAttr, FB, ED, FT, cx_impl_Hold, cl_impl_copyKernel, hk, cl_impl_within, sem_impl_within, cl_impl_copyCore, sem_impl_copyCore, wrapI, h, hn, hn', getRow _ _ hn', holdK]
  · simp (maxSteps := 10000000) (disch := first | assumption | omega) only [F_impl_Hold, params, EG, EL, simprocAttr, FB, ED, FT, cx_impl_Hold, cl_impl_copyKernel, hk, cl_impl_within, sem_impl_within, wrapI, h, holdK]
theorem sem_impl_Wake (x : DKernel) (hg : x.Gates.length ≤ 1048576) (hs : x.Saved.length ≤ 1048576) (hr : x.Ready.length ≤ 1048576) (ho : x.Over.length ≤ 1048576) (hG : ∀ y ∈ x.Gates, y.Waits.length + y.Queues.length ≤ 1048576) (hC : ∀ y ∈ x.Saved, y.Regs.length ≤ 1048576) (p : Int) : S_impl_Wake.sem [.agg (cKernel x), .int .i64 p] = some (.agg (cKernel (wakeK x p)), []) := by
  have hk := sem_impl_copyKernel x hg hs hr ho hG hC
  have hr' : x.Ready.length ≤ 140737488351232 := by omega
  have hq : (x.Ready.length + 1) * 8 ≤ 70368744177664 := by omega
  rw [sg_impl_Wake, sem_go]
  by_cases h : 0 ≤ p ∧ p ≤ (x.Saved.length : Int) - 1
  · by_cases hm : p ∈ x.Ready
    · simp (maxSteps := 10000000) (disch := first | assumption | omega) only [F_impl_Wake, params, EG, EL, simprocAttr, FB, ED, FT, cx_impl_Wake, cl_impl_copyKernel, hk, cl_impl_within, sem_impl_within, cl_slices_Contains_int_int, sem_slices_Contains_int_int, wrapI, h, hm, wakeK, not_true_eq_false]
    · simp (maxSteps := 10000000) (disch := first | assumption | omega) only [F_impl_Wake, params, EG, EL, simprocAttr, FB, ED, FT, cx_impl_Wake, cl_impl_copyKernel, hk, cl_impl_within, sem_impl_within, cl_slices_Contains_int_int, sem_slices_Contains_int_int, wrapI, h, hm, hq, map_cI_snoc, wakeK, not_false_eq_true]
  · simp (maxSteps := 10000000) (disch := first | assumption | omega) only [F_impl_Wake, params, EG, EL, simprocAttr, FB, ED, FT, cx_impl_Wake, cl_impl_copyKernel, hk, cl_impl_within, sem_impl_within, wrapI, h, wakeK]
theorem sem_impl_Pick (x : DKernel) (hg : x.Gates.length ≤ 1048576) (hs : x.Saved.length ≤ 1048576) (hr : x.Ready.length ≤ 1048576) (ho : x.Over.length ≤ 1048576) (hG : ∀ y ∈ x.Gates, y.Waits.length + y.Queues.length ≤ 1048576) (hC : ∀ y ∈ x.Saved, y.Regs.length ≤ 1048576) : S_impl_Pick.sem [.agg (cKernel x)] = some (.tup [.agg (cKernel (pickK x).1), .agg (cCore (pickK x).2.1), .bool (pickK x).2.2], []) := by
  have hk := sem_impl_copyKernel x hg hs hr ho hG hC
  rw [sg_impl_Pick, sem_go]
  obtain ⟨gs, rd, sv, ov⟩ := x
  simp only at hg hs hr ho hG hC hk
  have hnew := sem_impl_CoreNew
  cases rd with
  | nil =>
    simp only [cKernel, List.map_nil] at hk
    simp (maxSteps := 10000000) (disch := first | assumption | omega) only [cKernel, F_impl_Pick, params, EG, EL, simprocAttr, FB, ED, FT, cx_impl_Pick, cl_impl_copyKernel, hk, cl_impl_CoreNew, hnew, pickK]
  | cons r rs =>
    simp only [List.length_cons] at hr
    simp only [cKernel, List.map_cons] at hk
    have h0 : ¬ ((rs.length + 1 : Nat) : Int) = 0 := by omega
    have h1 : (0 : Int) < ((rs.length + 1 : Nat) : Int) := by omega
    have h2 : (1 : Int) ≤ ((rs.length + 1 : Nat) : Int) := by omega
    have h3 : rs.length * 8 ≤ 70368744177664 := by omega
    have h4 : 1 + rs.length ≤ rs.length + 1 := by omega
    by_cases h : 0 ≤ r ∧ r ≤ (sv.length : Int) - 1
    · have hn : r < (sv.length : Int) := by omega
      have hn' : r.toNat < sv.length := by omega
      have hgd : sv.getD r.toNat coreNew = sv[r.toNat] := by simp [List.getD_eq_getElem?_getD, hn']
      have hcc := hC _ (List.getElem_mem hn')
      simp (maxSteps := 10000000) (disch := first | assumption | omega) only [cKernel, F_impl_Pick, params, EG, EL, simprocAttr, FB, ED, FT, cx_impl_Pick, cl_impl_copyKernel, hk, cl_impl_CoreNew, hnew, cl_impl_within, sem_impl_within, cl_impl_copyCore, sem_impl_copyCore, wrapI, h, hn, hn', h0, h1, h2, h3, h4, hgd, getRow _ _ hn', pickK]
    · simp (maxSteps := 10000000) (disch := first | assumption | omega) only [cKernel, F_impl_Pick, params, EG, EL, simprocAttr, FB, ED, FT, cx_impl_Pick, cl_impl_copyKernel, hk, cl_impl_CoreNew, hnew, cl_impl_within, sem_impl_within, wrapI, h, h0, h1, h2, pickK]
theorem fIx_any {α : Type} {p : α → Bool} : ∀ {xs : List α} {i : Nat}, (0 ≤ fIx p xs i) = (xs.any p = true)
  | [], i => by simp [fIx]
  | x :: xs, i => by
    by_cases h : p x = true
    · simp only [fIx, h, if_true, List.any_cons, Bool.true_or]; simp
    · simp only [fIx, if_neg h, List.any_cons, Bool.eq_false_iff.2 h, Bool.false_or]
      exact fIx_any
def gateNew (n : Int) : DGate := ⟨-1, [], if 0 < n then (if 1 < n then [-1, -1] else [-1]) else []⟩
theorem wrap_one : IntKind.wrap .i64 (0 + 1) = 1 := by decide
theorem wrap_two : IntKind.wrap .i64 (1 + 1) = 2 := by decide
theorem min2_0 {n : Int} : (0 < (if 2 < n then 2 else n)) = (0 < n) := by split <;> simp <;> omega
theorem min2_1 {n : Int} : (1 < (if 2 < n then 2 else n)) = (1 < n) := by split <;> simp <;> omega
theorem min2_2 {n : Int} : (2 < (if 2 < n then 2 else n)) = False := by split <;> simp <;> omega
def procCore (x : DImage) (i : Nat) : DCore := ⟨List.replicate 8 0, if h : i < x.Starts.length then x.Starts[i] else 0, i⟩
def coresF (x : DImage) : List DProcess → Nat → List DCore
  | [], _ => []
  | _ :: r, i => procCore x i :: coresF x r (i + 1)
def readyF : List DProcess → Nat → List Int
  | [], _ => []
  | _ :: r, i => (i : Int) :: readyF r (i + 1)
def overF : List DProcess → List Bool
  | [] => []
  | _ :: r => false :: overF r
def monG (m : DMonitor) : DGate := gateNew m.Queues.length
def kernelNew (p : DProgram) (x : DImage) : DKernel := ⟨p.Monitors.map monG, readyF p.Processes 0, coresF x p.Processes 0, overF p.Processes⟩
theorem gateNew_len {n : Int} : (gateNew n).Waits.length + (gateNew n).Queues.length ≤ 2 := by
  unfold gateNew; split <;> (try split) <;> simp
theorem tot_monG : ∀ {ms : List DMonitor}, tot wtGate (ms.map monG) ≤ 2 * ms.length
  | [] => Nat.le_refl _
  | m :: ms => by
    have := @tot_monG ms
    have h := @gateNew_len (m.Queues.length : Int)
    simp only [List.map_cons, tot, List.length_cons, monG, wtGate] at *
    omega
theorem coresF_tot {x : DImage} : ∀ {ps : List DProcess} {i : Nat}, tot wtCore (coresF x ps i) = 8 * ps.length ∧ (coresF x ps i).length = ps.length ∧ (readyF ps i).length = ps.length ∧ (overF ps).length = ps.length
  | [], _ => ⟨rfl, rfl, rfl, rfl⟩
  | p :: ps, i => by
    obtain ⟨a, b, c, d⟩ := @coresF_tot x ps (i + 1)
    simp only [coresF, readyF, overF, tot, List.length_cons, wtCore, procCore, List.length_replicate] at *
    omega
def insOk (op a b c : Int) : Bool := decide ((1 ≤ op ∧ op ≤ 10) ∧ (0 ≤ a ∧ a ≤ 7) ∧ (0 ≤ b ∧ b ≤ 7) ∧ (0 ≤ c ∧ c ≤ 4194303) ∧ (op = 4 ∨ b = 0) ∧ (op ≠ 1 ∨ c ≤ 1000000) ∧ (op ≠ 4 ∨ (1 ≤ c ∧ c ≤ 9)) ∧ ((op ≠ 5 ∧ op ≠ 6) ∨ c = 0) ∧ (op ≠ 8 ∨ a = 0) ∧ (op ≠ 10 ∨ 1 ≤ a))
theorem insOk_no {op a b c : Int} (h : ¬ ((1 ≤ op ∧ op ≤ 10) ∧ (0 ≤ a ∧ a ≤ 7) ∧ (0 ≤ b ∧ b ≤ 7) ∧ (0 ≤ c ∧ c ≤ 4194303) ∧ (op = 4 ∨ b = 0))) : insOk op a b c = false := by
  unfold insOk; apply decide_eq_false; omega
theorem insOk_t {op a b c : Int} (h : (1 ≤ op ∧ op ≤ 10) ∧ (0 ≤ a ∧ a ≤ 7) ∧ (0 ≤ b ∧ b ≤ 7) ∧ (0 ≤ c ∧ c ≤ 4194303) ∧ (op = 4 ∨ b = 0) ∧ (op ≠ 1 ∨ c ≤ 1000000) ∧ (op ≠ 4 ∨ (1 ≤ c ∧ c ≤ 9)) ∧ ((op ≠ 5 ∧ op ≠ 6) ∨ c = 0) ∧ (op ≠ 8 ∨ a = 0) ∧ (op ≠ 10 ∨ 1 ≤ a)) : some (AV.bool true, ([] : List (List AV))) = some (.bool (insOk op a b c), []) := by
  unfold insOk; rw [decide_eq_true h]
theorem insOk_f {op a b c : Int} (h : ¬ ((1 ≤ op ∧ op ≤ 10) ∧ (0 ≤ a ∧ a ≤ 7) ∧ (0 ≤ b ∧ b ≤ 7) ∧ (0 ≤ c ∧ c ≤ 4194303) ∧ (op = 4 ∨ b = 0) ∧ (op ≠ 1 ∨ c ≤ 1000000) ∧ (op ≠ 4 ∨ (1 ≤ c ∧ c ≤ 9)) ∧ ((op ≠ 5 ∧ op ≠ 6) ∨ c = 0) ∧ (op ≠ 8 ∨ a = 0) ∧ (op ≠ 10 ∨ 1 ≤ a))) : some (AV.bool false, ([] : List (List AV))) = some (.bool (insOk op a b c), []) := by
  unfold insOk; rw [decide_eq_false h]
theorem insOk_d {op a b c : Int} {p : Prop} [Decidable p] (h : p ↔ ((1 ≤ op ∧ op ≤ 10) ∧ (0 ≤ a ∧ a ≤ 7) ∧ (0 ≤ b ∧ b ≤ 7) ∧ (0 ≤ c ∧ c ≤ 4194303) ∧ (op = 4 ∨ b = 0) ∧ (op ≠ 1 ∨ c ≤ 1000000) ∧ (op ≠ 4 ∨ (1 ≤ c ∧ c ≤ 9)) ∧ ((op ≠ 5 ∧ op ≠ 6) ∨ c = 0) ∧ (op ≠ 8 ∨ a = 0) ∧ (op ≠ 10 ∨ 1 ≤ a))) : some (AV.bool (decide p), ([] : List (List AV))) = some (.bool (insOk op a b c), []) := by
  unfold insOk; rw [decide_eq_decide.2 h]
theorem sem_spec_InsOk (op a b c : Int) : S_spec_InsOk.sem [.agg [.int .i64 op, .int .i64 a, .int .i64 b, .int .i64 c]] = some (.bool (insOk op a b c), []) := by
  rw [sg_spec_InsOk, sem_go]
  by_cases h1 : 1 ≤ op ∧ op ≤ 10
  · by_cases h2 : 0 ≤ a ∧ a ≤ 7
    · by_cases h3 : 0 ≤ b ∧ b ≤ 7
      · by_cases h4 : 0 ≤ c ∧ c ≤ 4194303
        · by_cases h5 : b = 0
          · subst h5
            have hb : (0 : Int) ≤ 0 ∧ (0 : Int) ≤ 7 := by omega
            have : op = 1 ∨ op = 2 ∨ op = 3 ∨ op = 4 ∨ op = 5 ∨ op = 6 ∨ op = 7 ∨ op = 8 ∨ op = 9 ∨ op = 10 := by omega
            rcases this with rfl | rfl | rfl | rfl | rfl | rfl | rfl | rfl | rfl | rfl
            all_goals simp (maxSteps := 10000000) (disch := first | assumption | omega) only [F_spec_InsOk, params, EG, EL, simprocAttr, FB, ED, cx_spec_InsOk, cl_spec_l01In, sem_spec_l01In,  h1, h2, hb, h4, decide_true, decide_false, Bool.not_true, Bool.not_false]
            all_goals first | exact insOk_t (by omega) | exact insOk_d (by omega) | (split <;> first | exact insOk_t (by omega) | exact insOk_f (by omega)) | (by_cases h9 : 1 ≤ a ∧ a ≤ 7 <;> simp only [h9, if_true, if_false, decide_true, decide_false] <;> first | exact insOk_t (by omega) | exact insOk_f (by omega))
          · by_cases h6 : op = 4
            · subst h6
              simp (maxSteps := 10000000) (disch := first | assumption | omega) only [F_spec_InsOk, params, EG, EL, simprocAttr, FB, ED, cx_spec_InsOk, cl_spec_l01In, sem_spec_l01In,  h1, h2, h3, h4, h5, decide_true, decide_false, Bool.not_true, Bool.not_false]
              all_goals first | exact insOk_t (by omega) | exact insOk_d (by omega) | (split <;> first | exact insOk_t (by omega) | exact insOk_f (by omega)) | (by_cases h9 : 1 ≤ a ∧ a ≤ 7 <;> simp only [h9, if_true, if_false, decide_true, decide_false] <;> first | exact insOk_t (by omega) | exact insOk_f (by omega))
            · by_cases h7 : op = 10
              · subst h7
                rw [insOk_no (by omega)]
                simp (maxSteps := 10000000) (disch := first | assumption | omega) only [F_spec_InsOk, params, EG, EL, simprocAttr, FB, ED, cx_spec_InsOk, cl_spec_l01In, sem_spec_l01In,  h1, h2, h3, h4, h5, decide_true, decide_false, Bool.not_true, Bool.not_false]
                try simp
              · rw [insOk_no (by omega)]
                simp (maxSteps := 10000000) (disch := first | assumption | omega) only [F_spec_InsOk, params, EG, EL, simprocAttr, FB, ED, cx_spec_InsOk, cl_spec_l01In, sem_spec_l01In,  h1, h2, h3, h4, h5, h6, h7, decide_true, decide_false, Bool.not_true, Bool.not_false]
        · rw [insOk_no (by omega)]
          simp (maxSteps := 10000000) (disch := first | assumption | omega) only [F_spec_InsOk, params, EG, EL, simprocAttr, FB, ED, cx_spec_InsOk, cl_spec_l01In, sem_spec_l01In,  h1, h2, h3, h4, decide_true, decide_false, Bool.not_true, Bool.not_false]
      · rw [insOk_no (by omega)]
        simp (maxSteps := 10000000) (disch := first | assumption | omega) only [F_spec_InsOk, params, EG, EL, simprocAttr, FB, ED, cx_spec_InsOk, cl_spec_l01In, sem_spec_l01In,  h1, h2, h3, decide_true, decide_false, Bool.not_true, Bool.not_false]
    · rw [insOk_no (by omega)]
      simp (maxSteps := 10000000) (disch := first | assumption | omega) only [F_spec_InsOk, params, EG, EL, simprocAttr, FB, ED, cx_spec_InsOk, cl_spec_l01In, sem_spec_l01In,  h1, h2, decide_true, decide_false, Bool.not_true, Bool.not_false]
  · rw [insOk_no (by omega)]
    simp (maxSteps := 10000000) (disch := first | assumption | omega) only [F_spec_InsOk, params, EG, EL, simprocAttr, FB, ED, cx_spec_InsOk, cl_spec_l01In, sem_spec_l01In,  h1, decide_true, decide_false, Bool.not_true, Bool.not_false]
theorem sem_impl_InsOk (op a b c : Int) : S_impl_InsOk.sem [.agg [.int .i64 op, .int .i64 a, .int .i64 b, .int .i64 c]] = some (.bool (insOk op a b c), []) := by
  rw [sg_impl_InsOk, sem_go]
  by_cases h1 : 1 ≤ op ∧ op ≤ 10
  · by_cases h2 : 0 ≤ a ∧ a ≤ 7
    · by_cases h3 : 0 ≤ b ∧ b ≤ 7
      · by_cases h4 : 0 ≤ c ∧ c ≤ 4194303
        · by_cases h5 : b = 0
          · subst h5
            have hb : (0 : Int) ≤ 0 ∧ (0 : Int) ≤ 7 := by omega
            have : op = 1 ∨ op = 2 ∨ op = 3 ∨ op = 4 ∨ op = 5 ∨ op = 6 ∨ op = 7 ∨ op = 8 ∨ op = 9 ∨ op = 10 := by omega
            rcases this with rfl | rfl | rfl | rfl | rfl | rfl | rfl | rfl | rfl | rfl
            all_goals simp (maxSteps := 10000000) (disch := first | assumption | omega) only [F_impl_InsOk, params, EG, EL, simprocAttr, FB, ED, cx_impl_InsOk, cl_impl_within, sem_impl_within,  h1, h2, hb, h4, decide_true, decide_false, Bool.not_true, Bool.not_false]
            all_goals first | exact insOk_t (by omega) | exact insOk_d (by omega) | (split <;> first | exact insOk_t (by omega) | exact insOk_f (by omega)) | (by_cases h9 : 1 ≤ a ∧ a ≤ 7 <;> simp only [h9, if_true, if_false, decide_true, decide_false] <;> first | exact insOk_t (by omega) | exact insOk_f (by omega))
          · by_cases h6 : op = 4
            · subst h6
              simp (maxSteps := 10000000) (disch := first | assumption | omega) only [F_impl_InsOk, params, EG, EL, simprocAttr, FB, ED, cx_impl_InsOk, cl_impl_within, sem_impl_within,  h1, h2, h3, h4, h5, decide_true, decide_false, Bool.not_true, Bool.not_false]
              all_goals first | exact insOk_t (by omega) | exact insOk_d (by omega) | (split <;> first | exact insOk_t (by omega) | exact insOk_f (by omega)) | (by_cases h9 : 1 ≤ a ∧ a ≤ 7 <;> simp only [h9, if_true, if_false, decide_true, decide_false] <;> first | exact insOk_t (by omega) | exact insOk_f (by omega))
            · by_cases h7 : op = 10
              · subst h7
                rw [insOk_no (by omega)]
                simp (maxSteps := 10000000) (disch := first | assumption | omega) only [F_impl_InsOk, params, EG, EL, simprocAttr, FB, ED, cx_impl_InsOk, cl_impl_within, sem_impl_within,  h1, h2, h3, h4, h5, decide_true, decide_false, Bool.not_true, Bool.not_false]
                try simp
              · rw [insOk_no (by omega)]
                simp (maxSteps := 10000000) (disch := first | assumption | omega) only [F_impl_InsOk, params, EG, EL, simprocAttr, FB, ED, cx_impl_InsOk, cl_impl_within, sem_impl_within,  h1, h2, h3, h4, h5, h6, h7, decide_true, decide_false, Bool.not_true, Bool.not_false]
        · rw [insOk_no (by omega)]
          simp (maxSteps := 10000000) (disch := first | assumption | omega) only [F_impl_InsOk, params, EG, EL, simprocAttr, FB, ED, cx_impl_InsOk, cl_impl_within, sem_impl_within,  h1, h2, h3, h4, decide_true, decide_false, Bool.not_true, Bool.not_false]
      · rw [insOk_no (by omega)]
        simp (maxSteps := 10000000) (disch := first | assumption | omega) only [F_impl_InsOk, params, EG, EL, simprocAttr, FB, ED, cx_impl_InsOk, cl_impl_within, sem_impl_within,  h1, h2, h3, decide_true, decide_false, Bool.not_true, Bool.not_false]
    · rw [insOk_no (by omega)]
      simp (maxSteps := 10000000) (disch := first | assumption | omega) only [F_impl_InsOk, params, EG, EL, simprocAttr, FB, ED, cx_impl_InsOk, cl_impl_within, sem_impl_within,  h1, h2, decide_true, decide_false, Bool.not_true, Bool.not_false]
  · rw [insOk_no (by omega)]
    simp (maxSteps := 10000000) (disch := first | assumption | omega) only [F_impl_InsOk, params, EG, EL, simprocAttr, FB, ED, cx_impl_InsOk, cl_impl_within, sem_impl_within,  h1, decide_true, decide_false, Bool.not_true, Bool.not_false]
def valOk (n : Int) : Bool := decide (-1000000 ≤ n ∧ n ≤ 1000000)
def bitF (b : Bool) : Int := if b = true then 1 else 0
def dOp (w : Int) : Int := w.fdiv (2 ^ 28)
def s25 (w : Int) : Int := w.fdiv (2 ^ 25)
def s22 (w : Int) : Int := w.fdiv (2 ^ 22)
def dA (w : Int) : Int := IntKind.wrap .i64 (BitVec.ofInt 64 (s25 w) &&& BitVec.ofInt 64 7).toNat
def dB (w : Int) : Int := IntKind.wrap .i64 (BitVec.ofInt 64 (s22 w) &&& BitVec.ofInt 64 7).toNat
def dC (w : Int) : Int := IntKind.wrap .i64 (BitVec.ofInt 64 w &&& BitVec.ofInt 64 4194303).toNat
theorem b28 {w : Int} : bin .shr (.int .i64 w) (.int .u64 28) = some (.int .i64 (dOp w)) := rfl
theorem b25 {w : Int} : bin .shr (.int .i64 w) (.int .u64 25) = some (.int .i64 (s25 w)) := rfl
theorem b22 {w : Int} : bin .shr (.int .i64 w) (.int .u64 22) = some (.int .i64 (s22 w)) := rfl
theorem bA {w : Int} : bin .and (.int .i64 (s25 w)) (.int .i64 7) = some (.int .i64 (dA w)) := rfl
theorem bB {w : Int} : bin .and (.int .i64 (s22 w)) (.int .i64 7) = some (.int .i64 (dB w)) := rfl
theorem bC {w : Int} : bin .and (.int .i64 w) (.int .i64 4194303) = some (.int .i64 (dC w)) := rfl
theorem valOk_zero : valOk 0 = true := by decide
theorem big_op {w : Int} (h : ¬ w ≤ 8589934592) : insOk (dOp w) (dA w) (dB w) (dC w) = false := by
  apply insOk_no
  have : 11 ≤ dOp w := by unfold dOp; rw [Int.fdiv_eq_ediv_of_nonneg _ (by decide)]; omega
  omega
def decOk (w : Int) : Bool := decide (0 ≤ w) && insOk (dOp w) (dA w) (dB w) (dC w)
def decR (w : Int) : AV := if decOk w = true then .tup [.agg [.int .i64 (dOp w), .int .i64 (dA w), .int .i64 (dB w), .int .i64 (dC w)], .bool true] else .tup [.agg [.int .i64 0, .int .i64 0, .int .i64 0, .int .i64 0], .bool false]
def calcN (op a b : Int) : Int := if op = 1 then IntKind.wrap .i64 (a + b) else if op = 2 then IntKind.wrap .i64 (a - b) else if op = 3 then IntKind.wrap .i64 (a * b) else if op = 4 then IntKind.wrap .i64 (a.tdiv b) else if op = 5 then a.tmod b else if op = 6 then bitF (decide (a < b)) else if op = 7 then bitF (decide (a = b)) else if op = 8 then bitF (!decide (a = 0) && !decide (b = 0)) else bitF (!decide (a = 0) || !decide (b = 0))
def calcF (op a b : Int) : Int × Int := if valOk a = true ∧ valOk b = true ∧ 1 ≤ op ∧ op ≤ 9 then (if b = 0 ∧ (op = 4 ∨ op = 5) then (0, 2) else if valOk (calcN op a b) = true then (calcN op a b, 0) else (0, 1)) else (0, 1)
def negF (a : Int) : Int × Int := if valOk a = true then (IntKind.wrap .i64 (0 - a), 0) else (0, 1)
def coreOkF (c : DCore) : Bool := c.Regs.all valOk && (decide (c.Regs.length = 8) && (decide (0 ≤ c.Pc) && decide (-1 ≤ c.Process ∧ c.Process ≤ 3)))
theorem sem_spec_ValOk (n : Int) : S_spec_ValOk.sem [.int .i64 n] = some (.bool (valOk n), []) := by
  rw [sg_spec_ValOk, sem_go]
  simp (maxSteps := 10000000) (disch := first | assumption | omega) only [F_spec_ValOk, params, EG, EL, simprocAttr, FB, ED, cx_spec_ValOk, cl_spec_l01In, sem_spec_l01In, valOk]
theorem sem_spec_l03Bit (b : Bool) : S_spec_l03Bit.sem [.bool b] = some (.int .i64 (bitF b), []) := by
  rw [sg_spec_l03Bit, sem_go]
  cases b <;> simp (maxSteps := 10000000) (disch := first | assumption | omega) only [F_spec_l03Bit, params, EG, EL, simprocAttr, FB, ED, cx_spec_l03Bit, bitF]
theorem sem_spec_Denied (n : Int) : S_spec_Denied.sem [.int .i64 n] = some (.int .i64 (bitF (decide (n = 0))), []) := by
  rw [sg_spec_Denied, sem_go]
  simp (maxSteps := 10000000) (disch := first | assumption | omega) only [F_spec_Denied, params, EG, EL, simprocAttr, FB, ED, cx_spec_Denied, cl_spec_l03Bit, sem_spec_l03Bit]
theorem sem_spec_Negated (n : Int) : S_spec_Negated.sem [.int .i64 n] = some (.tup [.int .i64 (negF n).1, .int .i64 (negF n).2], []) := by
  rw [sg_spec_Negated, sem_go]
  cases h : valOk n <;> simp (maxSteps := 10000000) (disch := first | assumption | omega) only [F_spec_Negated, params, EG, EL, simprocAttr, FB, ED, cx_spec_Negated, cl_spec_ValOk, sem_spec_ValOk, negF, h, Bool.not_true, Bool.not_false]
theorem sem_spec_Decode (w : Int) : S_spec_Decode.sem [.int .i64 w] = some (decR w, []) := by
  rw [sg_spec_Decode, sem_go]
  cases h2 : insOk (dOp w) (dA w) (dB w) (dC w) <;> by_cases h0 : 0 ≤ w <;> by_cases h1 : w ≤ 8589934592
  all_goals first | exact absurd (h2.symm.trans (big_op h1)) (by decide) | skip
  all_goals first | (have h0' : ¬ w < 0 := by omega) | (have h0' : w < 0 := by omega)
  all_goals simp (maxSteps := 10000000) (disch := first | assumption | omega) only [F_spec_Decode, params, EG, EL, simprocAttr, FB, ED, FT, cx_spec_Decode, cl_spec_l01In, sem_spec_l01In, cl_spec_InsOk, sem_spec_InsOk, b28, b25, b22, bA, bB, bC, decR, decOk, h0, h0', h1, h2, and_self, and_true, true_and, and_false, false_and, decide_true, decide_false, Bool.true_and, Bool.false_and, Bool.not_true, Bool.not_false]
theorem sem_spec_Calc (op a b : Int) : S_spec_Calc.sem [.int .i64 op, .int .i64 a, .int .i64 b] = some (.tup [.int .i64 (calcF op a b).1, .int .i64 (calcF op a b).2], []) := by
  rw [sg_spec_Calc, sem_go]
  cases h1 : valOk a
  · simp (maxSteps := 10000000) (disch := first | assumption | omega) only [F_spec_Calc, params, EG, EL, simprocAttr, FB, ED, cx_spec_Calc, cl_spec_l01In, sem_spec_l01In, cl_spec_l03Bit, sem_spec_l03Bit, cl_spec_ValOk, sem_spec_ValOk, Bool.not_true, Bool.not_false, decide_true, decide_false, Bool.true_and, Bool.false_and, Bool.true_or, Bool.false_or, h1, calcF]
    all_goals try (split <;> rfl)
  · cases h2 : valOk b
    · simp (maxSteps := 10000000) (disch := first | assumption | omega) only [F_spec_Calc, params, EG, EL, simprocAttr, FB, ED, cx_spec_Calc, cl_spec_l01In, sem_spec_l01In, cl_spec_l03Bit, sem_spec_l03Bit, cl_spec_ValOk, sem_spec_ValOk, Bool.not_true, Bool.not_false, decide_true, decide_false, Bool.true_and, Bool.false_and, Bool.true_or, Bool.false_or, h1, h2, calcF]
      all_goals try (split <;> rfl)
    · by_cases h3 : 1 ≤ op ∧ op ≤ 9
      · have : op = 1 ∨ op = 2 ∨ op = 3 ∨ op = 4 ∨ op = 5 ∨ op = 6 ∨ op = 7 ∨ op = 8 ∨ op = 9 := by omega
        by_cases h4 : b = 0
        all_goals by_cases h5 : a = 0
        all_goals rcases this with rfl | rfl | rfl | rfl | rfl | rfl | rfl | rfl | rfl
        all_goals simp only [calcF, calcN, h1, h2, h4, h5, valOk_zero, EG, EL, simprocAttr, FB, true_and, and_true, false_and, false_or, or_false, true_or, or_true]
        all_goals simp (maxSteps := 10000000) (disch := first | assumption | omega) only [F_spec_Calc, params, EG, EL, simprocAttr, FB, ED, cx_spec_Calc, cl_spec_l01In, sem_spec_l01In, cl_spec_l03Bit, sem_spec_l03Bit, cl_spec_ValOk, sem_spec_ValOk, Bool.not_true, Bool.not_false, decide_true, decide_false, Bool.true_and, Bool.false_and, Bool.true_or, Bool.false_or, h1, h2, h4, h5, valOk_zero]
        all_goals first | rfl | (split <;> simp_all) | trace_state
      · simp (maxSteps := 10000000) (disch := first | assumption | omega) only [F_spec_Calc, params, EG, EL, simprocAttr, FB, ED, cx_spec_Calc, cl_spec_l01In, sem_spec_l01In, cl_spec_l03Bit, sem_spec_l03Bit, cl_spec_ValOk, sem_spec_ValOk, Bool.not_true, Bool.not_false, decide_true, decide_false, Bool.true_and, Bool.false_and, Bool.true_or, Bool.false_or, h1, h2, h3, calcF]
        try trace_state
theorem sem_impl_ValOk (n : Int) : S_impl_ValOk.sem [.int .i64 n] = some (.bool (valOk n), []) := by
  rw [sg_impl_ValOk, sem_go]
  simp (maxSteps := 10000000) (disch := first | assumption | omega) only [F_impl_ValOk, params, EG, EL, simprocAttr, FB, ED, cx_impl_ValOk, cl_impl_within, sem_impl_within, valOk]
theorem sem_impl_truth (b : Bool) : S_impl_truth.sem [.bool b] = some (.int .i64 (bitF b), []) := by
  rw [sg_impl_truth, sem_go]
  cases b <;> simp (maxSteps := 10000000) (disch := first | assumption | omega) only [F_impl_truth, params, EG, EL, simprocAttr, FB, ED, cx_impl_truth, bitF]
theorem sem_impl_Denied (n : Int) : S_impl_Denied.sem [.int .i64 n] = some (.int .i64 (bitF (decide (n = 0))), []) := by
  rw [sg_impl_Denied, sem_go]
  simp (maxSteps := 10000000) (disch := first | assumption | omega) only [F_impl_Denied, params, EG, EL, simprocAttr, FB, ED, cx_impl_Denied, cl_impl_truth, sem_impl_truth]
theorem sem_impl_Negated (n : Int) : S_impl_Negated.sem [.int .i64 n] = some (.tup [.int .i64 (negF n).1, .int .i64 (negF n).2], []) := by
  rw [sg_impl_Negated, sem_go]
  cases h : valOk n <;> simp (maxSteps := 10000000) (disch := first | assumption | omega) only [F_impl_Negated, params, EG, EL, simprocAttr, FB, ED, cx_impl_Negated, cl_impl_ValOk, sem_impl_ValOk, negF, h, Bool.not_true, Bool.not_false]
theorem sem_impl_Decode (w : Int) : S_impl_Decode.sem [.int .i64 w] = some (decR w, []) := by
  rw [sg_impl_Decode, sem_go]
  cases h2 : insOk (dOp w) (dA w) (dB w) (dC w) <;> by_cases h0 : 0 ≤ w <;> by_cases h1 : w ≤ 8589934592
  all_goals first | exact absurd (h2.symm.trans (big_op h1)) (by decide) | skip
  all_goals first | (have h0' : ¬ w < 0 := by omega) | (have h0' : w < 0 := by omega)
  all_goals simp (maxSteps := 10000000) (disch := first | assumption | omega) only [F_impl_Decode, params, EG, EL, simprocAttr, FB, ED, FT, cx_impl_Decode, cl_impl_within, sem_impl_within, cl_impl_InsOk, sem_impl_InsOk, b28, b25, b22, bA, bB, bC, decR, decOk, h0, h0', h1, h2, and_self, and_true, true_and, and_false, false_and, decide_true, decide_false, Bool.true_and, Bool.false_and, Bool.not_true, Bool.not_false]
theorem sem_impl_Calc (op a b : Int) : S_impl_Calc.sem [.int .i64 op, .int .i64 a, .int .i64 b] = some (.tup [.int .i64 (calcF op a b).1, .int .i64 (calcF op a b).2], []) := by
  rw [sg_impl_Calc, sem_go]
  cases h1 : valOk a
  · simp (maxSteps := 10000000) (disch := first | assumption | omega) only [F_impl_Calc, params, EG, EL, simprocAttr, FB, ED, cx_impl_Calc, cl_impl_within, sem_impl_within, cl_impl_truth, sem_impl_truth, cl_impl_ValOk, sem_impl_ValOk, Bool.not_true, Bool.not_false, decide_true, decide_false, Bool.true_and, Bool.false_and, Bool.true_or, Bool.false_or, h1, calcF]
    all_goals try (split <;> rfl)
  · cases h2 : valOk b
    · simp (maxSteps := 10000000) (disch := first | assumption | omega) only [F_impl_Calc, params, EG, EL, simprocAttr, FB, ED, cx_impl_Calc, cl_impl_within, sem_impl_within, cl_impl_truth, sem_impl_truth, cl_impl_ValOk, sem_impl_ValOk, Bool.not_true, Bool.not_false, decide_true, decide_false, Bool.true_and, Bool.false_and, Bool.true_or, Bool.false_or, h1, h2, calcF]
      all_goals try (split <;> rfl)
    · by_cases h3 : 1 ≤ op ∧ op ≤ 9
      · have : op = 1 ∨ op = 2 ∨ op = 3 ∨ op = 4 ∨ op = 5 ∨ op = 6 ∨ op = 7 ∨ op = 8 ∨ op = 9 := by omega
        by_cases h4 : b = 0
        all_goals by_cases h5 : a = 0
        all_goals rcases this with rfl | rfl | rfl | rfl | rfl | rfl | rfl | rfl | rfl
        all_goals simp only [calcF, calcN, h1, h2, h4, h5, valOk_zero, EG, EL, simprocAttr, FB, true_and, and_true, false_and, false_or, or_false, true_or, or_true]
        all_goals simp (maxSteps := 10000000) (disch := first | assumption | omega) only [F_impl_Calc, params, EG, EL, simprocAttr, FB, ED, cx_impl_Calc, cl_impl_within, sem_impl_within, cl_impl_truth, sem_impl_truth, cl_impl_ValOk, sem_impl_ValOk, Bool.not_true, Bool.not_false, decide_true, decide_false, Bool.true_and, Bool.false_and, Bool.true_or, Bool.false_or, h1, h2, h4, h5, valOk_zero]
        all_goals first | rfl | (split <;> simp_all) | trace_state
      · simp (maxSteps := 10000000) (disch := first | assumption | omega) only [F_impl_Calc, params, EG, EL, simprocAttr, FB, ED, cx_impl_Calc, cl_impl_within, sem_impl_within, cl_impl_truth, sem_impl_truth, cl_impl_ValOk, sem_impl_ValOk, Bool.not_true, Bool.not_false, decide_true, decide_false, Bool.true_and, Bool.false_and, Bool.true_or, Bool.false_or, h1, h2, h3, calcF]
        try trace_state
theorem any_valOk {xs : List Int} : (xs.any fun n => !valOk n) = !(xs.all valOk) := by
  induction xs with
  | nil => rfl
  | cons y ys ih => cases h : valOk y <;> simp [ih, h]
def wordR (t : List Int) (pc : Int) : AV := if 0 ≤ pc ∧ pc ≤ (t.length : Int) - 1 then decR (t.getD pc.toNat 0) else .tup [.agg [.int .i64 0, .int .i64 0, .int .i64 0, .int .i64 0], .bool false]
def memF (op : Int) : Bool := decide (op = 2) || (decide (op = 3) || decide (op = 9))
theorem sem_spec_CoreOk (x : DCore) (hl : x.Regs.length ≤ 140737488351232) : S_spec_CoreOk.sem [.agg (cCore x)] = some (.bool (coreOkF x), []) := by
  have loop : loopV X_spec_CoreOk 0 [1, 3] [(1, [1]), (0, [2])] B0_spec_CoreOk ⟨[(1, .ptr ⟨0, none, 0⟩ 3 0 0), (3, .int .i64 0)], [some ⟨true, 0, 3, [cCore x]⟩]⟩ = okR (x.Regs.all valOk) 0 ⟨[(1, .ptr ⟨0, none, 0⟩ 3 0 0)], [some ⟨true, 0, 3, [cCore x]⟩]⟩ 2 := by
    refine loop_list x.Regs (fun _ (_ : Unit) => True) (fun i _ => ⟨[(1, .ptr ⟨0, none, 0⟩ 3 0 0), (3, .int .i64 ((i : Nat) : Int))], [some ⟨true, 0, 3, [cCore x]⟩]⟩) (fun rest _ => okR (rest.all valOk) 0 ⟨[(1, .ptr ⟨0, none, 0⟩ 3 0 0)], [some ⟨true, 0, 3, [cCore x]⟩]⟩ 2) ?_ ?_ () trivial
    · intro _ _
      rw [loopV_by B0_spec_CoreOk.eq_1]
      simp only [EG, EL, simprocAttr, FB, int_lt_irrefl, List.all_nil, okR_true]
    · rintro i hi0 y rest _ rfl rfl _ ih
      have i1 := ih () trivial
      have hi : (i : Int) < (x.Regs.length : Int) := by omega
      simp only [cCore] at i1
      rw [loopV_by B0_spec_CoreOk.eq_1]
      cases h1 : valOk x.Regs[i]
      all_goals simp (maxSteps := 10000000) (disch := first | assumption | omega) only [cCore, EG, EL, simprocAttr, FB, hi, wrap_succ, getRow _ _ hi0, h1, i1, cx_spec_CoreOk, cl_spec_ValOk, sem_spec_ValOk, List.all_cons, okR_false, decide_true, decide_false, Bool.not_true, Bool.not_false, Bool.true_and, Bool.false_and, Bool.and_true, Bool.and_false]
  rw [sg_spec_CoreOk, sem_go]
  cases ha : x.Regs.all valOk
  all_goals simp only [ha, EG, EL, simprocAttr, FB, okR_true, okR_false, cCore] at loop
  · simp (maxSteps := 10000000) (disch := first | assumption | omega) only [cCore, F_spec_CoreOk, params, EG, EL, simprocAttr, FB, cx_spec_CoreOk, ha, loop, coreOkF, decide_true, decide_false, Bool.not_true, Bool.not_false, Bool.true_and, Bool.false_and, Bool.and_true, Bool.and_false]
  · by_cases h8 : x.Regs.length = 8
    · have h8' : (x.Regs.length : Int) = 8 := by omega
      by_cases hp : 0 ≤ x.Pc
      all_goals simp (maxSteps := 10000000) (disch := first | assumption | omega) only [cCore, F_spec_CoreOk, params, EG, EL, simprocAttr, FB, cx_spec_CoreOk, ha, loop, coreOkF, h8, h8', hp, cl_spec_l01In, sem_spec_l01In, decide_true, decide_false, Bool.not_true, Bool.not_false, Bool.true_and, Bool.false_and, Bool.and_true, Bool.and_false]
    · have h8' : ¬ (x.Regs.length : Int) = 8 := by omega
      simp (maxSteps := 10000000) (disch := first | assumption | omega) only [cCore, F_spec_CoreOk, params, EG, EL, simprocAttr, FB, cx_spec_CoreOk, ha, loop, coreOkF, h8, h8', decide_true, decide_false, Bool.not_true, Bool.not_false, Bool.true_and, Bool.false_and, Bool.and_true, Bool.and_false]
theorem sem_impl_CoreOk_1 (n : Int) : S_impl_CoreOk_1.sem [.int .i64 n] = some (.bool (!valOk n), []) := by
  rw [sg_impl_CoreOk_1, sem_go]
  simp (maxSteps := 10000000) (disch := first | assumption | omega) only [F_impl_CoreOk_1, params, EG, EL, simprocAttr, FB, cx_impl_CoreOk_1, cl_impl_ValOk, sem_impl_ValOk]
theorem sem_ix_impl_CoreOk_1 (xs : List Int) (hl : xs.length ≤ 140737488351232) : S_slices_IndexFunc_int_int.sem [.tree 1 (xs.map cI), .fn 91 []] = some (.int .i64 (fIx (fun n => !valOk n) xs 0), []) := by
  have loop : loopV X_slices_IndexFunc_int_int 0 [0, 1, 7, 8] [(1, []), (0, [4])] B0_slices_IndexFunc_int_int ⟨[(0, .tree 1 (xs.map cI)), (1, .fn 91 []), (7, .int .i64 xs.length), (8, .int .i64 0)], []⟩ = fixR 4 (fIx (fun n => !valOk n) xs 0) := by
    refine loop_list xs (fun i a => a = i) (fun i a => ⟨[(0, .tree 1 (xs.map cI)), (1, .fn 91 []), (7, .int .i64 xs.length), (8, .int .i64 (i : Int))], []⟩) (fun rest a => fixR 4 (fIx (fun n => !valOk n) rest a)) ?_ ?_ 0 rfl
    · rintro a rfl
      rw [loopV_by B0_slices_IndexFunc_int_int.eq_1]
      simp only [EG, EL, simprocAttr, FB, int_lt_irrefl]
      exact fixR_nil
    · rintro i h x rest a rfl rfl rfl ih
      have hi : (a : Int) < (xs.length : Int) := by omega
      have i1 := sem_impl_CoreOk_1 xs[a]
      rw [loopV_by B0_slices_IndexFunc_int_int.eq_1]
      cases h1 : valOk xs[a]
      all_goals simp only [h1, decide_true, decide_false, Bool.not_true, Bool.not_false, Bool.true_and, Bool.false_and, Bool.and_true, Bool.and_false] at i1
      all_goals simp (maxSteps := 10000000) (disch := first | assumption | omega) only [EG, EL, simprocAttr, FB, hi, wrap_succ, getRow _ _ h, ih _ rfl, cx_slices_IndexFunc_int_int, cl_impl_CoreOk_1, i1, h1, decide_true, decide_false, Bool.not_true, Bool.not_false, Bool.true_and, Bool.false_and, Bool.and_true, Bool.and_false]
      all_goals first | exact fixR_yes (by simp [h1]) | exact fixR_no (by simp [h1])
  rw [sg_slices_IndexFunc_int_int, sem_go]
  simp (maxSteps := 10000000) (disch := first | assumption | omega) only [F_slices_IndexFunc_int_int, params, EG, EL, simprocAttr, FB, loop, goE_fixR]
  rcases @fIx_ge _ (fun n => !valOk n) xs 0 with h | h
  · simp [h]
  · rw [if_neg (by omega)]
theorem sem_ct_impl_CoreOk_1 (xs : List Int) (hl : xs.length ≤ 140737488351232) : S_slices_ContainsFunc_int_int.sem [.tree 1 (xs.map cI), .fn 91 []] = some (.bool (!(xs.all valOk)), []) := by
  rw [sg_slices_ContainsFunc_int_int, sem_go]
  simp (maxSteps := 10000000) (disch := first | assumption | omega) only [F_slices_ContainsFunc_int_int, params, EG, EL, simprocAttr, FB, cx_slices_ContainsFunc_int_int, cl_slices_IndexFunc_int_int, sem_ix_impl_CoreOk_1, fIx_any, Bool.decide_eq_true, any_valOk]
  cases xs.all valOk <;> rfl
theorem sem_impl_CoreOk (x : DCore) (hl : x.Regs.length ≤ 140737488351232) : S_impl_CoreOk.sem [.agg (cCore x)] = some (.bool (coreOkF x), []) := by
  rw [sg_impl_CoreOk, sem_go]
  by_cases h8 : x.Regs.length = 8
  · have h8' : (x.Regs.length : Int) = 8 := by omega
    cases ha : x.Regs.all valOk <;> by_cases hp : 0 ≤ x.Pc
    all_goals simp (maxSteps := 10000000) (disch := first | assumption | omega) only [cCore, F_impl_CoreOk, params, EG, EL, simprocAttr, FB, cx_impl_CoreOk, ha, coreOkF, h8, h8', hp, cl_impl_within, sem_impl_within, cl_slices_ContainsFunc_int_int, sem_ct_impl_CoreOk_1, decide_true, decide_false, Bool.not_true, Bool.not_false, Bool.true_and, Bool.false_and, Bool.and_true, Bool.and_false]
  · have h8' : ¬ (x.Regs.length : Int) = 8 := by omega
    simp (maxSteps := 10000000) (disch := first | assumption | omega) only [cCore, F_impl_CoreOk, params, EG, EL, simprocAttr, FB, cx_impl_CoreOk, coreOkF, h8, h8', decide_true, decide_false, Bool.not_true, Bool.not_false, Bool.true_and, Bool.false_and, Bool.and_true, Bool.and_false]
theorem sem_impl_wordAt (t : List Int) (pc : Int) (hl : t.length ≤ 1048576) : S_impl_wordAt.sem [.tree 1 (t.map cI), .int .i64 pc] = some (wordR t pc, []) := by
  rw [sg_impl_wordAt, sem_go]
  have hw : IntKind.wrap .i64 ((t.length : Int) - 1) = (t.length : Int) - 1 := wrapI (by omega) (by omega)
  by_cases h : 0 ≤ pc ∧ pc ≤ (t.length : Int) - 1
  · obtain ⟨n, rfl⟩ : ∃ n : Nat, pc = (n : Int) := ⟨pc.toNat, by omega⟩
    have hn : n < t.length := by omega
    have hn' : (n : Int) < (t.length : Int) := by omega
    have hg : t.getD n 0 = t[n] := by simp [hn]
    cases hd : decOk t[n]
    all_goals simp (maxSteps := 10000000) (disch := first | assumption | omega) only [F_impl_wordAt, params, EG, EL, simprocAttr, FB, ED, FT, cx_impl_wordAt, cl_impl_within, sem_impl_within, cl_impl_Decode, sem_impl_Decode, wordR, decR, h, hw, hg, hd, getRow _ _ hn, hn', Int.toNat_natCast, and_self, decide_true, decide_false, Bool.not_true, Bool.not_false, Bool.true_and, Bool.false_and, Bool.and_true, Bool.and_false]
  · simp (maxSteps := 10000000) (disch := first | assumption | omega) only [F_impl_wordAt, params, EG, EL, simprocAttr, FB, ED, FT, cx_impl_wordAt, cl_impl_within, sem_impl_within, wordR, h, hw, decide_true, decide_false, Bool.not_true, Bool.not_false, Bool.true_and, Bool.false_and, Bool.and_true, Bool.and_false]
theorem sem_impl_usesMem (op a b c : Int) : S_impl_usesMem.sem [.agg [.int .i64 op, .int .i64 a, .int .i64 b, .int .i64 c]] = some (.bool (memF op), []) := by
  rw [sg_impl_usesMem, sem_go]
  by_cases h2 : op = 2 <;> by_cases h3 : op = 3 <;> simp (maxSteps := 10000000) (disch := first | assumption | omega) only [F_impl_usesMem, params, EG, EL, simprocAttr, FB, ED, cx_impl_usesMem, memF, h2, h3, decide_true, decide_false, Bool.not_true, Bool.not_false, Bool.true_and, Bool.false_and, Bool.and_true, Bool.and_false, Bool.true_or, Bool.false_or]
def stepG (x : DCore) (m : List Int) (op : Int) (a b c : Nat) : DCore × List Int × Int :=
  if op = 2 ∨ op = 3 ∨ op = 9 then
    if m.length ≤ c then (x, m, 4)
    else if op = 3 then ({ x with Pc := IntKind.wrap .i64 (x.Pc + 1) }, m.set c (x.Regs.getD a 0), 0)
    else if valOk (m.getD c 0) = true then ({ x with Regs := x.Regs.set a (m.getD c 0), Pc := IntKind.wrap .i64 (x.Pc + 1) }, if op = 9 then m.set c 1 else m, 0)
    else (x, m, 4)
  else if op = 7 then ({ x with Pc := if x.Regs.getD a 0 = 0 then (c : Int) else IntKind.wrap .i64 (x.Pc + 1) }, m, 0)
  else if op = 8 then ({ x with Pc := (c : Int) }, m, 0)
  else if op = 10 then ({ x with Pc := IntKind.wrap .i64 (x.Pc + 1) }, m, 10)
  else
    let r : Int × Int := if op = 1 then ((c : Int), 0) else if op = 4 then calcF c (x.Regs.getD a 0) (x.Regs.getD b 0) else if op = 5 then (bitF (decide (x.Regs.getD a 0 = 0)), 0) else negF (x.Regs.getD a 0)
    if r.2 = 0 then ({ x with Regs := x.Regs.set a r.1, Pc := IntKind.wrap .i64 (x.Pc + 1) }, m, 0) else (x, m, r.2)
def stepF (x : DCore) (t m : List Int) : DCore × List Int × Int :=
  if coreOkF x = true ∧ (0 ≤ x.Pc ∧ x.Pc ≤ (t.length : Int) - 1) ∧ decOk (t.getD x.Pc.toNat 0) = true then stepG x m (dOp (t.getD x.Pc.toNat 0)) (dA (t.getD x.Pc.toNat 0)).toNat (dB (t.getD x.Pc.toNat 0)).toNat (dC (t.getD x.Pc.toNat 0)).toNat else (x, m, 4)
theorem decOk_bounds {w : Int} (h : decOk w = true) : ∃ op : Int, ∃ a b c : Nat, dOp w = op ∧ dA w = (a : Int) ∧ dB w = (b : Int) ∧ dC w = (c : Int) ∧ (1 ≤ op ∧ op ≤ 10) ∧ a < 8 ∧ b < 8 ∧ c ≤ 4194303 := by
  simp only [decOk, insOk, Bool.and_eq_true, decide_eq_true_eq] at h
  exact ⟨dOp w, (dA w).toNat, (dB w).toNat, (dC w).toNat, rfl, by omega, by omega, by omega, by omega, by omega, by omega, by omega⟩
theorem coreOk_len {x : DCore} (h : coreOkF x = true) : x.Regs.length = 8 ∧ 0 ≤ x.Pc := by
  simp only [coreOkF, Bool.and_eq_true, decide_eq_true_eq] at h
  exact ⟨h.2.1, h.2.2.1⟩
set_option maxHeartbeats 4000000 in
theorem sem_impl_StepCore (x : DCore) (t m : List Int) (hr : x.Regs.length ≤ 1048576) (ht : t.length ≤ 1048576) (hm : m.length ≤ 1048576) : S_impl_StepCore.sem [.agg (cCore x), .tree 1 (t.map cI), .tree 1 (m.map cI)] = some (.tup [.agg (cCore (stepF x t m).1), .tree 1 ((stepF x t m).2.1.map cI), .int .i64 (stepF x t m).2.2], []) := by
  obtain ⟨rs, pc, pr⟩ := x
  simp only at hr
  have hk := sem_impl_copyCore ⟨rs, pc, pr⟩ hr
  have ho := sem_impl_CoreOk ⟨rs, pc, pr⟩ (Nat.le_trans hr (by omega))
  have hw : IntKind.wrap .i64 ((t.length : Int) - 1) = (t.length : Int) - 1 := wrapI (by omega) (by omega)
  have hw2 : IntKind.wrap .i64 ((m.length : Int) - 1) = (m.length : Int) - 1 := wrapI (by omega) (by omega)
  have hcap : m.length * 8 ≤ 70368744177664 := by omega
  have hcap2 : rs.length * 8 ≤ 70368744177664 := by omega
  simp only [cCore] at hk ho
  rw [sg_impl_StepCore, sem_go]
  by_cases hp : 0 ≤ pc ∧ pc ≤ (t.length : Int) - 1
  · obtain ⟨p, rfl⟩ : ∃ n : Nat, pc = (n : Int) := ⟨pc.toNat, by omega⟩
    have hpn : p < t.length := by omega
    have hpn' : (p : Int) < (t.length : Int) := by omega
    have hg : t.getD p 0 = t[p] := by simp [hpn]
    cases hd : decOk t[p]
    · have e : stepF ⟨rs, p, pr⟩ t m = (⟨rs, p, pr⟩, m, 4) := by simp only [stepF, Int.toNat_natCast, hg, hd]; simp
      have hD := sem_impl_wordAt t p ht
      simp only [wordR, if_pos hp, Int.toNat_natCast, hg, decR, hd, if_false, Bool.false_eq_true] at hD
      cases hc : coreOkF ⟨rs, p, pr⟩ <;> simp only [hc] at ho
      all_goals simp (maxSteps := 10000000) (disch := first | assumption | omega) only [cCore, F_impl_StepCore, params, EG, EL, simprocAttr, FB, ED, FT, cx_impl_StepCore, hw, hw2, hcap, hcap2, and_self, hp, cl_impl_copyCore, hk, cl_impl_wordAt, hD, cl_impl_CoreOk, ho, cl_impl_usesMem, sem_impl_usesMem, memF, cl_impl_ValOk, sem_impl_ValOk, cl_impl_Calc, sem_impl_Calc, cl_impl_Denied, sem_impl_Denied, cl_impl_Negated, sem_impl_Negated, decide_true, decide_false, Bool.not_true, Bool.not_false, Bool.true_and, Bool.false_and, Bool.and_true, Bool.and_false, Bool.true_or, Bool.false_or, Bool.or_false, Bool.or_true, e, hpn', getRow _ _ hpn]
    · obtain ⟨op, a, b, c, e1, e2, e3, e4, hop, ha, hb, hcc⟩ := decOk_bounds hd
      have hD := sem_impl_wordAt t p ht
      simp only [wordR, if_pos hp, Int.toNat_natCast, hg, decR, hd, if_true, e1, e2, e3, e4] at hD
      cases hc : coreOkF ⟨rs, p, pr⟩ <;> simp only [hc] at ho
      · have e : stepF ⟨rs, p, pr⟩ t m = (⟨rs, p, pr⟩, m, 4) := by simp only [stepF, hc]; simp
        simp (maxSteps := 10000000) (disch := first | assumption | omega) only [cCore, F_impl_StepCore, params, EG, EL, simprocAttr, FB, ED, FT, cx_impl_StepCore, hw, hw2, hcap, hcap2, and_self, hp, cl_impl_copyCore, hk, cl_impl_wordAt, hD, cl_impl_CoreOk, ho, cl_impl_usesMem, sem_impl_usesMem, memF, cl_impl_ValOk, sem_impl_ValOk, cl_impl_Calc, sem_impl_Calc, cl_impl_Denied, sem_impl_Denied, cl_impl_Negated, sem_impl_Negated, decide_true, decide_false, Bool.not_true, Bool.not_false, Bool.true_and, Bool.false_and, Bool.and_true, Bool.and_false, Bool.true_or, Bool.false_or, Bool.or_false, Bool.or_true, e, hpn', getRow _ _ hpn]
      · obtain ⟨h8, h0⟩ := coreOk_len hc
        simp only at h8 h0
        have har : a < rs.length := by omega
        have hbr : b < rs.length := by omega
        have har' : (a : Int) < (rs.length : Int) := by omega
        have hbr' : (b : Int) < (rs.length : Int) := by omega
        have hga : rs.getD a 0 = rs[a] := by simp [har]
        have hgb : rs.getD b 0 = rs[b] := by simp [hbr]
        have hss : rs.set a rs[a] = rs := List.set_getElem_self ..
        have e : stepF ⟨rs, p, pr⟩ t m = stepG ⟨rs, p, pr⟩ m op a b c := by
          simp only [stepF, Int.toNat_natCast, hg, hd, hc, e1, e2, e3, e4]
          rw [if_pos ⟨trivial, hp, trivial⟩]
        rw [e]
        have : op = 1 ∨ op = 2 ∨ op = 3 ∨ op = 4 ∨ op = 5 ∨ op = 6 ∨ op = 7 ∨ op = 8 ∨ op = 9 ∨ op = 10 := by omega
        rcases this with rfl | rfl | rfl | rfl | rfl | rfl | rfl | rfl | rfl | rfl
        · simp (maxSteps := 10000000) (disch := first | assumption | omega) only [cCore, F_impl_StepCore, params, EG, EL, simprocAttr, FB, ED, FT, cx_impl_StepCore, hw, hw2, hcap, hcap2, and_self, hp, cl_impl_copyCore, hk, cl_impl_wordAt, hD, cl_impl_CoreOk, ho, cl_impl_usesMem, sem_impl_usesMem, memF, cl_impl_ValOk, sem_impl_ValOk, cl_impl_Calc, sem_impl_Calc, cl_impl_Denied, sem_impl_Denied, cl_impl_Negated, sem_impl_Negated, decide_true, decide_false, Bool.not_true, Bool.not_false, Bool.true_and, Bool.false_and, Bool.and_true, Bool.and_false, Bool.true_or, Bool.false_or, Bool.or_false, Bool.or_true, hpn', getRow _ _ hpn, getRow _ _ har, getRow _ _ hbr, har, hbr, har', hbr', hga, hgb, hss, stepG, true_or, or_true, false_or, or_false, or_self]
        · by_cases hcm : c < m.length
          rotate_left
          · have hcm1 : ¬ (c : Int) ≤ (m.length : Int) - 1 := by omega
            have hcm2 : (m.length : Int) ≤ (c : Int) := by omega
            have hcm3 : m.length ≤ c := by omega
            have hcm4 : ¬ (c : Int) < (m.length : Int) := by omega
            simp (maxSteps := 10000000) (disch := first | assumption | omega) only [cCore, F_impl_StepCore, params, EG, EL, simprocAttr, FB, ED, FT, cx_impl_StepCore, hw, hw2, hcap, hcap2, and_self, hp, cl_impl_copyCore, hk, cl_impl_wordAt, hD, cl_impl_CoreOk, ho, cl_impl_usesMem, sem_impl_usesMem, memF, cl_impl_ValOk, sem_impl_ValOk, cl_impl_Calc, sem_impl_Calc, cl_impl_Denied, sem_impl_Denied, cl_impl_Negated, sem_impl_Negated, decide_true, decide_false, Bool.not_true, Bool.not_false, Bool.true_and, Bool.false_and, Bool.and_true, Bool.and_false, Bool.true_or, Bool.false_or, Bool.or_false, Bool.or_true, hpn', getRow _ _ hpn, getRow _ _ har, getRow _ _ hbr, har, hbr, har', hbr', hga, hgb, hss, stepG, true_or, or_true, false_or, or_false, or_self, hcm, hcm1, hcm2, hcm3, hcm4]
          · have hcm1 : (c : Int) ≤ (m.length : Int) - 1 := by omega
            have hcm2 : ¬ (m.length : Int) ≤ (c : Int) := by omega
            have hcm3 : ¬ m.length ≤ c := by omega
            have hcm4 : (c : Int) < (m.length : Int) := by omega
            have hgm : m.getD c 0 = m[c] := by simp [hcm]
            cases hv : valOk m[c]
            all_goals simp (maxSteps := 10000000) (disch := first | assumption | omega) only [cCore, F_impl_StepCore, params, EG, EL, simprocAttr, FB, ED, FT, cx_impl_StepCore, hw, hw2, hcap, hcap2, and_self, hp, cl_impl_copyCore, hk, cl_impl_wordAt, hD, cl_impl_CoreOk, ho, cl_impl_usesMem, sem_impl_usesMem, memF, cl_impl_ValOk, sem_impl_ValOk, cl_impl_Calc, sem_impl_Calc, cl_impl_Denied, sem_impl_Denied, cl_impl_Negated, sem_impl_Negated, decide_true, decide_false, Bool.not_true, Bool.not_false, Bool.true_and, Bool.false_and, Bool.and_true, Bool.and_false, Bool.true_or, Bool.false_or, Bool.or_false, Bool.or_true, hpn', getRow _ _ hpn, getRow _ _ har, getRow _ _ hbr, har, hbr, har', hbr', hga, hgb, hgm, hv, hss, stepG, true_or, or_true, false_or, or_false, or_self, hcm, hcm1, hcm2, hcm3, hcm4, getRow _ _ hcm]
        · by_cases hcm : c < m.length
          rotate_left
          · have hcm1 : ¬ (c : Int) ≤ (m.length : Int) - 1 := by omega
            have hcm2 : (m.length : Int) ≤ (c : Int) := by omega
            have hcm3 : m.length ≤ c := by omega
            have hcm4 : ¬ (c : Int) < (m.length : Int) := by omega
            simp (maxSteps := 10000000) (disch := first | assumption | omega) only [cCore, F_impl_StepCore, params, EG, EL, simprocAttr, FB, ED, FT, cx_impl_StepCore, hw, hw2, hcap, hcap2, and_self, hp, cl_impl_copyCore, hk, cl_impl_wordAt, hD, cl_impl_CoreOk, ho, cl_impl_usesMem, sem_impl_usesMem, memF, cl_impl_ValOk, sem_impl_ValOk, cl_impl_Calc, sem_impl_Calc, cl_impl_Denied, sem_impl_Denied, cl_impl_Negated, sem_impl_Negated, decide_true, decide_false, Bool.not_true, Bool.not_false, Bool.true_and, Bool.false_and, Bool.and_true, Bool.and_false, Bool.true_or, Bool.false_or, Bool.or_false, Bool.or_true, hpn', getRow _ _ hpn, getRow _ _ har, getRow _ _ hbr, har, hbr, har', hbr', hga, hgb, hss, stepG, true_or, or_true, false_or, or_false, or_self, hcm, hcm1, hcm2, hcm3, hcm4]
          · have hcm1 : (c : Int) ≤ (m.length : Int) - 1 := by omega
            have hcm2 : ¬ (m.length : Int) ≤ (c : Int) := by omega
            have hcm3 : ¬ m.length ≤ c := by omega
            have hcm4 : (c : Int) < (m.length : Int) := by omega
            have hgm : m.getD c 0 = m[c] := by simp [hcm]
            simp (maxSteps := 10000000) (disch := first | assumption | omega) only [cCore, F_impl_StepCore, params, EG, EL, simprocAttr, FB, ED, FT, cx_impl_StepCore, hw, hw2, hcap, hcap2, and_self, hp, cl_impl_copyCore, hk, cl_impl_wordAt, hD, cl_impl_CoreOk, ho, cl_impl_usesMem, sem_impl_usesMem, memF, cl_impl_ValOk, sem_impl_ValOk, cl_impl_Calc, sem_impl_Calc, cl_impl_Denied, sem_impl_Denied, cl_impl_Negated, sem_impl_Negated, decide_true, decide_false, Bool.not_true, Bool.not_false, Bool.true_and, Bool.false_and, Bool.and_true, Bool.and_false, Bool.true_or, Bool.false_or, Bool.or_false, Bool.or_true, hpn', getRow _ _ hpn, getRow _ _ har, getRow _ _ hbr, har, hbr, har', hbr', hga, hgb, hss, stepG, true_or, or_true, false_or, or_false, or_self, hcm, hcm1, hcm2, hcm3, hcm4, getRow _ _ hcm]
        · by_cases hq : (calcF c rs[a] rs[b]).2 = 0
          all_goals simp (maxSteps := 10000000) (disch := first | assumption | omega) only [cCore, F_impl_StepCore, params, EG, EL, simprocAttr, FB, ED, FT, cx_impl_StepCore, hw, hw2, hcap, hcap2, and_self, hp, cl_impl_copyCore, hk, cl_impl_wordAt, hD, cl_impl_CoreOk, ho, cl_impl_usesMem, sem_impl_usesMem, memF, cl_impl_ValOk, sem_impl_ValOk, cl_impl_Calc, sem_impl_Calc, cl_impl_Denied, sem_impl_Denied, cl_impl_Negated, sem_impl_Negated, decide_true, decide_false, Bool.not_true, Bool.not_false, Bool.true_and, Bool.false_and, Bool.and_true, Bool.and_false, Bool.true_or, Bool.false_or, Bool.or_false, Bool.or_true, hpn', getRow _ _ hpn, getRow _ _ har, getRow _ _ hbr, har, hbr, har', hbr', hga, hgb, hss, stepG, true_or, or_true, false_or, or_false, or_self, hq]
        · simp (maxSteps := 10000000) (disch := first | assumption | omega) only [cCore, F_impl_StepCore, params, EG, EL, simprocAttr, FB, ED, FT, cx_impl_StepCore, hw, hw2, hcap, hcap2, and_self, hp, cl_impl_copyCore, hk, cl_impl_wordAt, hD, cl_impl_CoreOk, ho, cl_impl_usesMem, sem_impl_usesMem, memF, cl_impl_ValOk, sem_impl_ValOk, cl_impl_Calc, sem_impl_Calc, cl_impl_Denied, sem_impl_Denied, cl_impl_Negated, sem_impl_Negated, decide_true, decide_false, Bool.not_true, Bool.not_false, Bool.true_and, Bool.false_and, Bool.and_true, Bool.and_false, Bool.true_or, Bool.false_or, Bool.or_false, Bool.or_true, hpn', getRow _ _ hpn, getRow _ _ har, getRow _ _ hbr, har, hbr, har', hbr', hga, hgb, hss, stepG, true_or, or_true, false_or, or_false, or_self]
        · by_cases hq : (negF rs[a]).2 = 0
          all_goals simp (maxSteps := 10000000) (disch := first | assumption | omega) only [cCore, F_impl_StepCore, params, EG, EL, simprocAttr, FB, ED, FT, cx_impl_StepCore, hw, hw2, hcap, hcap2, and_self, hp, cl_impl_copyCore, hk, cl_impl_wordAt, hD, cl_impl_CoreOk, ho, cl_impl_usesMem, sem_impl_usesMem, memF, cl_impl_ValOk, sem_impl_ValOk, cl_impl_Calc, sem_impl_Calc, cl_impl_Denied, sem_impl_Denied, cl_impl_Negated, sem_impl_Negated, decide_true, decide_false, Bool.not_true, Bool.not_false, Bool.true_and, Bool.false_and, Bool.and_true, Bool.and_false, Bool.true_or, Bool.false_or, Bool.or_false, Bool.or_true, hpn', getRow _ _ hpn, getRow _ _ har, getRow _ _ hbr, har, hbr, har', hbr', hga, hgb, hss, stepG, true_or, or_true, false_or, or_false, or_self, hq]
        · by_cases hq : rs[a] = 0
          · have hs0 : rs.set a 0 = rs := by rw [← hq]; exact hss
            simp (maxSteps := 10000000) (disch := first | assumption | omega) only [cCore, F_impl_StepCore, params, EG, EL, simprocAttr, FB, ED, FT, cx_impl_StepCore, hw, hw2, hcap, hcap2, and_self, hp, cl_impl_copyCore, hk, cl_impl_wordAt, hD, cl_impl_CoreOk, ho, cl_impl_usesMem, sem_impl_usesMem, memF, cl_impl_ValOk, sem_impl_ValOk, cl_impl_Calc, sem_impl_Calc, cl_impl_Denied, sem_impl_Denied, cl_impl_Negated, sem_impl_Negated, decide_true, decide_false, Bool.not_true, Bool.not_false, Bool.true_and, Bool.false_and, Bool.and_true, Bool.and_false, Bool.true_or, Bool.false_or, Bool.or_false, Bool.or_true, hpn', getRow _ _ hpn, getRow _ _ har, getRow _ _ hbr, har, hbr, har', hbr', hga, hgb, hss, stepG, true_or, or_true, false_or, or_false, or_self, hq, hs0]
          · simp (maxSteps := 10000000) (disch := first | assumption | omega) only [cCore, F_impl_StepCore, params, EG, EL, simprocAttr, FB, ED, FT, cx_impl_StepCore, hw, hw2, hcap, hcap2, and_self, hp, cl_impl_copyCore, hk, cl_impl_wordAt, hD, cl_impl_CoreOk, ho, cl_impl_usesMem, sem_impl_usesMem, memF, cl_impl_ValOk, sem_impl_ValOk, cl_impl_Calc, sem_impl_Calc, cl_impl_Denied, sem_impl_Denied, cl_impl_Negated, sem_impl_Negated, decide_true, decide_false, Bool.not_true, Bool.not_false, Bool.true_and, Bool.false_and, Bool.and_true, Bool.and_false, Bool.true_or, Bool.false_or, Bool.or_false, Bool.or_true, hpn', getRow _ _ hpn, getRow _ _ har, getRow _ _ hbr, har, hbr, har', hbr', hga, hgb, hss, stepG, true_or, or_true, false_or, or_false, or_self, hq]
        · simp (maxSteps := 10000000) (disch := first | assumption | omega) only [cCore, F_impl_StepCore, params, EG, EL, simprocAttr, FB, ED, FT, cx_impl_StepCore, hw, hw2, hcap, hcap2, and_self, hp, cl_impl_copyCore, hk, cl_impl_wordAt, hD, cl_impl_CoreOk, ho, cl_impl_usesMem, sem_impl_usesMem, memF, cl_impl_ValOk, sem_impl_ValOk, cl_impl_Calc, sem_impl_Calc, cl_impl_Denied, sem_impl_Denied, cl_impl_Negated, sem_impl_Negated, decide_true, decide_false, Bool.not_true, Bool.not_false, Bool.true_and, Bool.false_and, Bool.and_true, Bool.and_false, Bool.true_or, Bool.false_or, Bool.or_false, Bool.or_true, hpn', getRow _ _ hpn, getRow _ _ har, getRow _ _ hbr, har, hbr, har', hbr', hga, hgb, hss, stepG, true_or, or_true, false_or, or_false, or_self]
        · by_cases hcm : c < m.length
          rotate_left
          · have hcm1 : ¬ (c : Int) ≤ (m.length : Int) - 1 := by omega
            have hcm2 : (m.length : Int) ≤ (c : Int) := by omega
            have hcm3 : m.length ≤ c := by omega
            have hcm4 : ¬ (c : Int) < (m.length : Int) := by omega
            simp (maxSteps := 10000000) (disch := first | assumption | omega) only [cCore, F_impl_StepCore, params, EG, EL, simprocAttr, FB, ED, FT, cx_impl_StepCore, hw, hw2, hcap, hcap2, and_self, hp, cl_impl_copyCore, hk, cl_impl_wordAt, hD, cl_impl_CoreOk, ho, cl_impl_usesMem, sem_impl_usesMem, memF, cl_impl_ValOk, sem_impl_ValOk, cl_impl_Calc, sem_impl_Calc, cl_impl_Denied, sem_impl_Denied, cl_impl_Negated, sem_impl_Negated, decide_true, decide_false, Bool.not_true, Bool.not_false, Bool.true_and, Bool.false_and, Bool.and_true, Bool.and_false, Bool.true_or, Bool.false_or, Bool.or_false, Bool.or_true, hpn', getRow _ _ hpn, getRow _ _ har, getRow _ _ hbr, har, hbr, har', hbr', hga, hgb, hss, stepG, true_or, or_true, false_or, or_false, or_self, hcm, hcm1, hcm2, hcm3, hcm4]
          · have hcm1 : (c : Int) ≤ (m.length : Int) - 1 := by omega
            have hcm2 : ¬ (m.length : Int) ≤ (c : Int) := by omega
            have hcm3 : ¬ m.length ≤ c := by omega
            have hcm4 : (c : Int) < (m.length : Int) := by omega
            have hgm : m.getD c 0 = m[c] := by simp [hcm]
            cases hv : valOk m[c]
            all_goals simp (maxSteps := 10000000) (disch := first | assumption | omega) only [cCore, F_impl_StepCore, params, EG, EL, simprocAttr, FB, ED, FT, cx_impl_StepCore, hw, hw2, hcap, hcap2, and_self, hp, cl_impl_copyCore, hk, cl_impl_wordAt, hD, cl_impl_CoreOk, ho, cl_impl_usesMem, sem_impl_usesMem, memF, cl_impl_ValOk, sem_impl_ValOk, cl_impl_Calc, sem_impl_Calc, cl_impl_Denied, sem_impl_Denied, cl_impl_Negated, sem_impl_Negated, decide_true, decide_false, Bool.not_true, Bool.not_false, Bool.true_and, Bool.false_and, Bool.and_true, Bool.and_false, Bool.true_or, Bool.false_or, Bool.or_false, Bool.or_true, hpn', getRow _ _ hpn, getRow _ _ har, getRow _ _ hbr, har, hbr, har', hbr', hga, hgb, hgm, hv, hss, stepG, true_or, or_true, false_or, or_false, or_self, hcm, hcm1, hcm2, hcm3, hcm4, getRow _ _ hcm]
        · simp (maxSteps := 10000000) (disch := first | assumption | omega) only [cCore, F_impl_StepCore, params, EG, EL, simprocAttr, FB, ED, FT, cx_impl_StepCore, hw, hw2, hcap, hcap2, and_self, hp, cl_impl_copyCore, hk, cl_impl_wordAt, hD, cl_impl_CoreOk, ho, cl_impl_usesMem, sem_impl_usesMem, memF, cl_impl_ValOk, sem_impl_ValOk, cl_impl_Calc, sem_impl_Calc, cl_impl_Denied, sem_impl_Denied, cl_impl_Negated, sem_impl_Negated, decide_true, decide_false, Bool.not_true, Bool.not_false, Bool.true_and, Bool.false_and, Bool.and_true, Bool.and_false, Bool.true_or, Bool.false_or, Bool.or_false, Bool.or_true, hpn', getRow _ _ hpn, getRow _ _ har, getRow _ _ hbr, har, hbr, har', hbr', hga, hgb, hss, stepG, true_or, or_true, false_or, or_false, or_self]
  · have e : stepF ⟨rs, pc, pr⟩ t m = (⟨rs, pc, pr⟩, m, 4) := by
      simp only [stepF]
      rw [if_neg (by rintro ⟨_, h, _⟩; exact hp h)]
    have hD := sem_impl_wordAt t pc ht
    simp only [wordR, if_neg hp] at hD
    cases hc : coreOkF ⟨rs, pc, pr⟩ <;> simp only [hc] at ho
    all_goals simp (maxSteps := 10000000) (disch := first | assumption | omega) only [cCore, F_impl_StepCore, params, EG, EL, simprocAttr, FB, ED, FT, cx_impl_StepCore, hw, hw2, hcap, hcap2, and_self, hp, cl_impl_copyCore, hk, cl_impl_wordAt, hD, cl_impl_CoreOk, ho, cl_impl_usesMem, sem_impl_usesMem, memF, cl_impl_ValOk, sem_impl_ValOk, cl_impl_Calc, sem_impl_Calc, cl_impl_Denied, sem_impl_Denied, cl_impl_Negated, sem_impl_Negated, decide_true, decide_false, Bool.not_true, Bool.not_false, Bool.true_and, Bool.false_and, Bool.and_true, Bool.and_false, Bool.true_or, Bool.false_or, Bool.or_false, Bool.or_true, e]
theorem stepG_len {x : DCore} {m : List Int} {op : Int} {a b c : Nat} : (stepG x m op a b c).1.Regs.length = x.Regs.length ∧ (stepG x m op a b c).2.1.length = m.length := by
  unfold stepG
  dsimp only
  repeat' split
  all_goals first | exact ⟨rfl, rfl⟩ | (simp only [List.length_set]; exact ⟨rfl, rfl⟩) | simp
theorem stepF_regs {x : DCore} {t m : List Int} : (stepF x t m).1.Regs.length = x.Regs.length := by
  unfold stepF; split
  · exact stepG_len.1
  · rfl
theorem stepF_mem {x : DCore} {t m : List Int} : (stepF x t m).2.1.length = m.length := by
  unfold stepF; split
  · exact stepG_len.2
  · rfl
def nV (m : DMonitor) : Nat := m.Vars.length
def nP (q : DProcess) : Nat := q.Vars.length + 2
def pv (p : DProgram) (k : Nat) : Nat := match p.Processes[k]? with | some q => q.Vars.length | none => 0
theorem pv_eq {p : DProgram} {k : Nat} (h : k < p.Processes.length) : pv p k = p.Processes[k].Vars.length := by simp [pv, h]
def procIn (p : DProgram) (k : Int) : Prop := 0 ≤ k ∧ k ≤ (p.Processes.length : Int) - 1
instance (p : DProgram) (k : Int) : Decidable (procIn p k) := inferInstanceAs (Decidable (_ ∧ _))
def varAt (p : DProgram) (k i : Int) : Int := if (0 ≤ k ∧ k ≤ (p.Processes.length : Int) - 1) ∧ (0 ≤ i ∧ i ≤ (pv p k.toNat : Int)) then ((1 + tot nV p.Monitors + tot nP (p.Processes.take k.toNat) : Nat) : Int) + i else -1
theorem tot_drop {α : Type} {f : α → Nat} {xs : List α} {i : Nat} (h : i < xs.length) : tot f (xs.drop i) = f xs[i] + tot f (xs.drop (i + 1)) := by
  rw [List.drop_eq_getElem_cons h]; rfl
theorem totTake_le {α : Type} {f : α → Nat} : ∀ {xs : List α} {n : Nat}, tot f (xs.take n) ≤ tot f xs
  | [], n => by simp
  | x :: xs, 0 => by simp [tot]
  | x :: xs, n + 1 => by have := @totTake_le α f xs n; simp only [List.take_succ_cons, tot]; omega
theorem tot_mono {α : Type} {f g : α → Nat} (h : ∀ x, f x ≤ g x) : ∀ {xs : List α}, tot f xs ≤ tot g xs
  | [] => Nat.le_refl _
  | x :: xs => by have := @tot_mono _ _ _ h xs; have := h x; simp only [tot]; omega
theorem tot_nP : ∀ {xs : List DProcess}, tot nP xs ≤ tot wtProcess xs + 2 * xs.length
  | [] => Nat.le_refl _
  | x :: xs => by have := @tot_nP xs; simp only [tot, nP, wtProcess, List.length_cons]; omega
theorem tot_nV {xs : List DMonitor} : tot nV xs ≤ tot wtMonitor xs := tot_mono fun x => by unfold nV wtMonitor; omega
def atsF (p : DProgram) (k : Int) : List ByteArray → Nat → List Int
  | [], _ => []
  | _ :: r, i => varAt p k i :: atsF p k r (i + 1)
def varsOf (p : DProgram) (k : Nat) : List ByteArray := match p.Processes[k]? with | some q => q.Vars | none => []
theorem varsOf_eq {p : DProgram} {k : Nat} (h : k < p.Processes.length) : varsOf p k = p.Processes[k].Vars := by simp [varsOf, h]
def ownPlaces (p : DProgram) (k : Int) : DPlaces := if 0 ≤ k ∧ k ≤ (p.Processes.length : Int) - 1 then ⟨varsOf p k.toNat, atsF p k (varsOf p k.toNat) 0⟩ else ⟨[], []⟩
theorem atsF_len {p : DProgram} {k : Int} : ∀ {xs : List ByteArray} {i : Nat}, (atsF p k xs i).length = xs.length
  | [], _ => rfl
  | x :: xs, i => by simp only [atsF, List.length_cons, @atsF_len p k xs (i + 1)]
theorem ownPlaces_wt {p : DProgram} {k : Int} : wtPlaces (ownPlaces p k) ≤ 2 * tot wtProcess p.Processes := by
  unfold ownPlaces
  split
  · simp only [wtPlaces, atsF_len]
    unfold varsOf
    cases h : p.Processes[k.toNat]? with
    | none => simp [tot]
    | some q =>
      have := le_tot wtProcess (List.mem_of_getElem? h)
      simp only [wtProcess] at this
      simp only; omega
  · simp [wtPlaces, tot]
def mv (p : DProgram) (k : Nat) : Nat := match p.Monitors[k]? with | some q => q.Vars.length | none => 0
theorem mv_eq {p : DProgram} {k : Nat} (h : k < p.Monitors.length) : mv p k = p.Monitors[k].Vars.length := by simp [mv, h]
def sharedAt (p : DProgram) (k i : Int) : Int := if (0 ≤ k ∧ k ≤ (p.Monitors.length : Int) - 1) ∧ (0 ≤ i ∧ i ≤ (mv p k.toNat : Int) - 1) then ((1 + tot nV (p.Monitors.take k.toNat) : Nat) : Int) + i else -1
def argAt (p : DProgram) (k : Int) : Int := if 0 ≤ k ∧ k ≤ (p.Processes.length : Int) - 1 then varAt p k (pv p k.toNat) else -1
def resultAt (p : DProgram) (k : Int) : Int := if argAt p k < 0 then -1 else IntKind.wrap .i64 (argAt p k + 1)
theorem nV_lt {p : DProgram} {k : Nat} (h : k < p.Monitors.length) : p.Monitors[k].Vars.length + tot nV (p.Monitors.take k) ≤ tot nV p.Monitors := by
  have := @tot_take _ nV p.Monitors k h
  have : nV p.Monitors[k] = p.Monitors[k].Vars.length := rfl
  omega
def satsF (p : DProgram) (m : Int) : List ByteArray → Nat → List Int
  | [], _ => []
  | _ :: r, i => sharedAt p m i :: satsF p m r (i + 1)
def mvars (p : DProgram) (m : Nat) : List ByteArray := match p.Monitors[m]? with | some q => q.Vars | none => []
def ents (p : DProgram) (m : Nat) : List DEntry := match p.Monitors[m]? with | some q => q.Entries | none => []
def paramOf (p : DProgram) (m n : Nat) : ByteArray := match (ents p m)[n]? with | some q => q.Param | none => ⟨#[]⟩
theorem mvars_eq {p : DProgram} {m : Nat} (h : m < p.Monitors.length) : mvars p m = p.Monitors[m].Vars := by simp [mvars, h]
theorem ents_eq {p : DProgram} {m : Nat} (h : m < p.Monitors.length) : ents p m = p.Monitors[m].Entries := by simp [ents, h]
theorem param_eq {p : DProgram} {m n : Nat} (h : m < p.Monitors.length) (h2 : n < p.Monitors[m].Entries.length) : paramOf p m n = p.Monitors[m].Entries[n].Param := by
  unfold paramOf; rw [ents_eq h]; simp [h2]
def resB : ByteArray := ⟨#[114, 101, 115, 117, 108, 116]⟩
def entryPlaces (p : DProgram) (k m n : Int) : DPlaces :=
  if (0 ≤ k ∧ k ≤ (p.Processes.length : Int) - 1) ∧ (0 ≤ m ∧ m ≤ (p.Monitors.length : Int) - 1) ∧ (0 ≤ n ∧ n ≤ ((ents p m.toNat).length : Int) - 1) then ⟨[paramOf p m.toNat n.toNat, resB] ++ mvars p m.toNat, [argAt p k, resultAt p k] ++ satsF p m (mvars p m.toNat) 0⟩ else ⟨[], []⟩
theorem satsF_len {p : DProgram} {k : Int} : ∀ {xs : List ByteArray} {i : Nat}, (satsF p k xs i).length = xs.length
  | [], _ => rfl
  | x :: xs, i => by simp only [satsF, List.length_cons, @satsF_len p k xs (i + 1)]
theorem entryPlaces_wt {p : DProgram} {k m n : Int} : wtPlaces (entryPlaces p k m n) ≤ 3 * tot wtMonitor p.Monitors + 100 := by
  unfold entryPlaces
  split
  · simp only [wtPlaces, List.length_append, satsF_len, List.length_cons, List.length_nil, List.cons_append, List.nil_append, tot]
    have hr : wtS resB = 6 := rfl
    unfold paramOf mvars ents
    cases h : p.Monitors[m.toNat]? with
    | none => simp [tot, wtS] at *; omega
    | some q =>
      have h1 := le_tot wtMonitor (List.mem_of_getElem? h)
      simp only [wtMonitor] at h1
      simp only
      cases h2 : q.Entries[n.toNat]? with
      | none =>
        have : wtS (⟨#[]⟩ : ByteArray) = 0 := rfl
        simp only; omega
      | some e =>
        have h3 := le_tot wtEntry (List.mem_of_getElem? h2)
        simp only [wtEntry] at h3
        have : wtS e.Param = e.Param.size := rfl
        simp only; omega
  · simp [wtPlaces, tot]
theorem sh28 {x : Int} : bin .shl (.int .i64 x) (.int .u64 28) = some (.int .i64 (IntKind.wrap .i64 (x * 268435456))) := rfl
theorem sh25 {x : Int} : bin .shl (.int .i64 x) (.int .u64 25) = some (.int .i64 (IntKind.wrap .i64 (x * 33554432))) := rfl
theorem sh22 {x : Int} : bin .shl (.int .i64 x) (.int .u64 22) = some (.int .i64 (IntKind.wrap .i64 (x * 4194304))) := rfl
def encN (op a b c : Int) : Int := op * 268435456 + a * 33554432 + b * 4194304 + c
def encF (op a b c : Int) : Int := if insOk op a b c = true then encN op a b c else 0
theorem insOk_bd {op a b c : Int} (h : insOk op a b c = true) : (1 ≤ op ∧ op ≤ 10) ∧ (0 ≤ a ∧ a ≤ 7) ∧ (0 ≤ b ∧ b ≤ 7) ∧ (0 ≤ c ∧ c ≤ 4194303) := by
  unfold insOk at h
  have := of_decide_eq_true h
  exact ⟨this.1, this.2.1, this.2.2.1, this.2.2.2.1⟩
/-! bytes and strings; numbers as bytes -/
def bsA (l : List UInt8) : ByteArray := ⟨l.toArray⟩
theorem bsA_nil : (⟨#[]⟩ : ByteArray) = bsA [] := rfl
theorem bsA_size {l : List UInt8} : (bsA l).size = l.length := by simp [bsA, ByteArray.size]
theorem bsA_app {a b : List UInt8} : bsA a ++ bsA b = bsA (a ++ b) := by
  apply ByteArray.ext
  simp [bsA]
theorem bsA_mk {l : List UInt8} : (⟨l.toArray⟩ : ByteArray) = bsA l := rfl
theorem bsA_inj {a b : List UInt8} : bsA a = bsA b ↔ a = b := by
  constructor
  · intro h
    have := congrArg (fun x : ByteArray => x.data.toList) h
    simpa [bsA] using this
  · intro h; rw [h]
theorem bytesOf_map : ∀ {l : List UInt8}, bytesOf (l.map cY) = some l
  | [] => rfl
  | b :: l => by
    simp only [List.map_cons, cY, bytesOf, bytesOf_map (l := l), Option.map_some]
    congr 1
    simp
theorem map_cY_snoc {xs : List UInt8} {v : Int} {b : UInt8} (h : v = (b.toNat : Int)) : xs.map cY ++ [[.int .u8 v]] = (xs ++ [b]).map cY := by rw [h]; exact snoc_cY
theorem wrap_u8 {k : Nat} (h : k < 256) : IntKind.wrap .u8 (k : Int) = ((UInt8.ofNat k).toNat : Int) := by
  have : (UInt8.ofNat k).toNat = k := by rw [UInt8.toNat_ofNat']; exact Nat.mod_eq_of_lt h
  rw [this]
  have e : ∀ j : Int, 0 ≤ j → j < 256 → IntKind.wrap .u8 j = j := by
    intro j h1 h2
    simp [IntKind.wrap, IntKind.signed, IntKind.bits]
    omega
  exact e _ (by omega) (by omega)
def varI (n : Nat) : List UInt8 := if h : 127 < n then UInt8.ofNat (n % 128 + 128) :: varI (n / 128) else []
termination_by n
decreasing_by omega
def varL (n : Nat) : Nat := if h : 127 < n then varL (n / 128) else n
termination_by n
decreasing_by omega
theorem varI_hi {n : Nat} (h : 127 < n) : varI n = UInt8.ofNat (n % 128 + 128) :: varI (n / 128) := by rw [varI, dif_pos h]
theorem varI_lo {n : Nat} (h : ¬ 127 < n) : varI n = [] := by rw [varI, dif_neg h]
theorem varL_hi {n : Nat} (h : 127 < n) : varL n = varL (n / 128) := by rw [varL, dif_pos h]
theorem varL_lo {n : Nat} (h : ¬ 127 < n) : varL n = n := by rw [varL, dif_neg h]
theorem varL_le (n : Nat) : varL n ≤ 127 := by
  induction n using Nat.strongRecOn with
  | ind n ih =>
    by_cases h : 127 < n
    · rw [varL_hi h]; exact ih _ (by omega)
    · rw [varL_lo h]; omega
theorem varI_len (n : Nat) : (varI n).length ≤ n := by
  induction n using Nat.strongRecOn with
  | ind n ih =>
    by_cases h : 127 < n
    · rw [varI_hi h, List.length_cons]
      have := ih (n / 128) (by omega)
      omega
    · rw [varI_lo h]; simp
theorem varI_len5 (n : Nat) (h : n ≤ 17179869184) : (varI n).length ≤ 4 := by
  by_cases h1 : 127 < n
  · rw [varI_hi h1]
    by_cases h2 : 127 < n / 128
    · rw [varI_hi h2]
      by_cases h3 : 127 < n / 128 / 128
      · rw [varI_hi h3]
        by_cases h4 : 127 < n / 128 / 128 / 128
        · rw [varI_hi h4]
          by_cases h5 : 127 < n / 128 / 128 / 128 / 128
          · omega
          · rw [varI_lo h5]; simp
        · rw [varI_lo h4]; simp
      · rw [varI_lo h3]; simp
    · rw [varI_lo h2]; simp
  · rw [varI_lo h1]; simp
def varN (n : Nat) : List UInt8 := varI n ++ [UInt8.ofNat (varL n)]
theorem varN_len (n : Nat) (h : n ≤ 17179869184) : (varN n).length ≤ 5 := by
  have := varI_len5 n h
  unfold varN
  simp only [List.length_append, List.length_singleton]; omega
theorem tmod_cast {n : Nat} : Int.tmod (n : Int) 128 = ((n % 128 : Nat) : Int) := by
  rw [Int.tmod_eq_emod_of_nonneg (by omega)]; omega
theorem tdiv_cast {n : Nat} : Int.tdiv (n : Int) 128 = ((n / 128 : Nat) : Int) := by
  rw [Int.tdiv_eq_ediv_of_nonneg (by omega)]; omega
theorem seg_snocY {xs : List UInt8} {b : UInt8} : seg ((xs ++ [b]).map cY) 0 (xs.length + 1) = (xs ++ [b]).map cY := by
  unfold seg
  rw [List.drop_zero, List.take_of_length_le (by simp)]
theorem byte_hi {n : Nat} : IntKind.wrap .u8 (IntKind.wrap .i64 (Int.tmod (n : Int) 128 + 128)) = ((UInt8.ofNat (n % 128 + 128)).toNat : Int) := by
  rw [tmod_cast, wrapI (by omega) (by omega)]
  have : ((n % 128 : Nat) : Int) + 128 = ((n % 128 + 128 : Nat) : Int) := by omega
  rw [this]
  exact wrap_u8 (by omega)
def xor32 (x y : Int) : Int := IntKind.wrap .u32 (BitVec.ofInt 32 x ^^^ BitVec.ofInt 32 y).toNat
theorem bxor32 {x y : Int} : bin .xor (.int .u32 x) (.int .u32 y) = some (.int .u32 (xor32 x y)) := rfl
def roundF (s : Int) : Int := if s.tmod 2 = 1 then xor32 (IntKind.wrap .u32 (s.tdiv 2)) 3558460437 else IntKind.wrap .u32 (s.tdiv 2)
def roundsF : List Unit → Int → Int
  | [], s => s
  | _ :: r, s => roundsF r (roundF s)
def sumF : List UInt8 → Int → Int
  | [], s => s
  | b :: r, s => sumF r (roundsF (List.replicate 8 ()) (xor32 s (IntKind.wrap .u32 (b.toNat : Int))))
def h24 (x : Int) : Int := x.fdiv (2 ^ 24)
def h16 (x : Int) : Int := x.fdiv (2 ^ 16)
def h8 (x : Int) : Int := x.fdiv (2 ^ 8)
theorem bh24 {x : Int} : bin .shr (.int .u32 x) (.int .u64 24) = some (.int .u32 (h24 x)) := rfl
theorem bh16 {x : Int} : bin .shr (.int .u32 x) (.int .u64 16) = some (.int .u32 (h16 x)) := rfl
theorem bh8 {x : Int} : bin .shr (.int .u32 x) (.int .u64 8) = some (.int .u32 (h8 x)) := rfl
def fourF (x : Int) : List UInt8 := [UInt8.ofNat (IntKind.wrap .u8 (h24 x)).toNat, UInt8.ofNat (IntKind.wrap .u8 (h16 x)).toNat, UInt8.ofNat (IntKind.wrap .u8 (h8 x)).toNat, UInt8.ofNat (IntKind.wrap .u8 x).toNat]
theorem seg_four {a b c d : List AV} : seg [a, b, c, d] 0 4 = [a, b, c, d] := rfl
theorem bsA_get {l : List UInt8} {i : Nat} (h : i < l.length) : (bsA l).data.getD i 0 = l[i] := by
  simp [bsA, Array.getD_eq_getD_getElem?, h]
def sealF (l : List UInt8) : List UInt8 × Bool := if 20000 < l.length then ([], false) else (l ++ fourF (sumF l 4294967295), true)
def stS (n : Int) : Option Int → List Int → Bool
  | _, [] => true
  | p, a :: r => decide (0 ≤ a ∧ a ≤ n - 1) && ((match p with | none => decide (a = 0) | some q => decide (q < a)) && stS n (some a) r)
def stI (n : Int) : Option Int → List Int → Bool
  | _, [] => true
  | p, a :: r => decide (a < n) && ((match p with | none => true | some q => decide (q < a)) && stI n (some a) r)
theorem stS_none {n a : Int} {r : List Int} : stS n none (a :: r) = (decide (0 ≤ a ∧ a ≤ n - 1) && (decide (a = 0) && stS n (some a) r)) := rfl
theorem stS_some {n a q : Int} {r : List Int} : stS n (some q) (a :: r) = (decide (0 ≤ a ∧ a ≤ n - 1) && (decide (q < a) && stS n (some a) r)) := rfl
theorem stI_none {n a : Int} {r : List Int} : stI n none (a :: r) = (decide (a < n) && (true && stI n (some a) r)) := rfl
theorem stI_some {n a q : Int} {r : List Int} : stI n (some q) (a :: r) = (decide (a < n) && (decide (q < a) && stI n (some a) r)) := rfl
theorem stSI {n : Int} : ∀ {q : Int} {xs : List Int}, 0 ≤ q → stS n (some q) xs = stI n (some q) xs
  | q, [], _ => rfl
  | q, a :: r, h => by
    rw [stS_some, stI_some]
    by_cases h1 : q < a
    · rw [stSI (q := a) (xs := r) (by omega)]
      have e : (decide (0 ≤ a ∧ a ≤ n - 1)) = decide (a < n) := by rw [decide_eq_decide]; omega
      rw [e]
    · simp [h1]
theorem stS_first {n : Int} (hn : 1 ≤ n) : ∀ (l : List Int) (h : 0 < l.length), stS n none l = (decide (l[0] = 0) && stI n none l)
  | [], h => by simp at h
  | y :: ys, _ => by
    simp only [List.getElem_cons_zero]
    rw [stS_none, stI_none]
    by_cases hy : y = 0
    · subst hy
      rw [stSI (Int.le_refl 0)]
      have e : decide ((0 : Int) ≤ 0 ∧ (0 : Int) ≤ n - 1) = decide ((0 : Int) < n) := by rw [decide_eq_decide]; omega
      rw [e]; simp
    · simp [hy]
def prevO (xs : List Int) : Nat → Option Int
  | 0 => none
  | j + 1 => xs[j]?
def wordB (n size w : Int) : Bool := decOk w && ((!(memF (dOp w) && decide (size ≤ dC w))) && (!((decide (dOp w = 7) || decide (dOp w = 8)) && decide (n ≤ dC w))))
def lastF : List Int → DIns → DIns
  | [], d => d
  | w :: r, _ => lastF r ⟨dOp w, dA w, dB w, dC w⟩
def imageOkF (x : DImage) : Bool := decide (1 ≤ (x.Starts.length : Int) ∧ (x.Starts.length : Int) ≤ 4) && (decide (1 ≤ (x.Text.length : Int) ∧ (x.Text.length : Int) ≤ 800) && (decide (1 ≤ x.Size ∧ x.Size ≤ 100) && (stS x.Text.length none x.Starts && (x.Text.all (wordB x.Text.length x.Size) && (decide ((lastF x.Text ⟨0, 0, 0, 0⟩).Op = 10) && decide ((lastF x.Text ⟨0, 0, 0, 0⟩).A = 7))))))
def varZ (n : Int) : List UInt8 := varN n.toNat
theorem varZ_len {n : Int} (h : n ≤ 17179869184) : (varZ n).length ≤ 5 := varN_len _ (by omega)
theorem byteE_bsA {l : List UInt8} : byteE (bsA l) = l.map cY := rfl
theorem map_cY_app {a b : List UInt8} : a.map cY ++ b.map cY = (a ++ b).map cY := by rw [List.map_append]
theorem map_cI_two {xs : List Int} {a b : Int} : xs.map cI ++ [[.int .i64 a], [.int .i64 b]] = (xs ++ [a, b]).map cI := by simp
theorem seg_two {a b : List AV} : seg [a, b] 0 2 = [a, b] := rfl
def midF (ws : List Int) : List Int := ws.flatMap fun w => [s22 w, dC w]
theorem midF_cons {w : Int} {ws : List Int} : midF (w :: ws) = [s22 w, dC w] ++ midF ws := rfl
theorem midF_nil : midF [] = [] := rfl
theorem midF_len : ∀ {ws : List Int}, (midF ws).length = 2 * ws.length
  | [] => rfl
  | w :: ws => by rw [midF_cons, List.length_append, midF_len (ws := ws)]; simp only [List.length_cons, List.length_nil]; omega
def varsF (ns : List Int) : List UInt8 := ns.flatMap varZ
theorem varsF_app {a b : List Int} : varsF (a ++ b) = varsF a ++ varsF b := by simp [varsF]
theorem varsF_one {a : Int} : varsF [a] = varZ a := by simp [varsF]
theorem varsF_cons {a : Int} {b : List Int} : varsF (a :: b) = varZ a ++ varsF b := by simp [varsF]
theorem varsF_nil : varsF [] = [] := rfl
theorem varsF_len : ∀ {ns : List Int}, (∀ n ∈ ns, n ≤ 17179869184) → (varsF ns).length ≤ 5 * ns.length
  | [], _ => by simp [varsF]
  | n :: ns, h => by
    rw [varsF_cons, List.length_append, List.length_cons]
    have h1 := varZ_len (h n (by simp))
    have h2 := varsF_len (ns := ns) fun m hm => h m (by simp [hm])
    omega
theorem dec_bd {w : Int} (h : decOk w = true) : (0 ≤ s22 w ∧ s22 w ≤ 1000000000) ∧ (0 ≤ dC w ∧ dC w ≤ 1000000000) := by
  unfold decOk at h
  simp only [Bool.and_eq_true, decide_eq_true_eq] at h
  obtain ⟨h0, h1⟩ := h
  have hb := insOk_bd h1
  have h2 : dOp w ≤ 10 := hb.1.2
  unfold dOp at h2
  rw [Int.fdiv_eq_ediv_of_nonneg _ (by decide)] at h2
  unfold s22
  rw [Int.fdiv_eq_ediv_of_nonneg _ (by decide)]
  omega
theorem mid_bd {ws : List Int} (h : ∀ w ∈ ws, decOk w = true) : ∀ n ∈ midF ws, 0 ≤ n ∧ n ≤ 1000000000 := by
  intro n hn
  unfold midF at hn
  rw [List.mem_flatMap] at hn
  obtain ⟨w, hw, hn⟩ := hn
  have := dec_bd (h w hw)
  simp only [List.mem_cons, List.mem_nil_iff, or_false] at hn
  rcases hn with rfl | rfl
  · exact this.1
  · exact this.2
def numsF (x : DImage) : List Int := ((x.Text.length : Int) :: midF x.Text) ++ ((x.Starts.length : Int) :: x.Starts) ++ [x.Size]
theorem imageOk_parts {x : DImage} (h : imageOkF x = true) : (1 ≤ (x.Starts.length : Int) ∧ (x.Starts.length : Int) ≤ 4) ∧ (1 ≤ (x.Text.length : Int) ∧ (x.Text.length : Int) ≤ 800) ∧ (1 ≤ x.Size ∧ x.Size ≤ 100) ∧ stS x.Text.length none x.Starts = true ∧ (∀ w ∈ x.Text, decOk w = true) := by
  unfold imageOkF at h
  simp only [Bool.and_eq_true, decide_eq_true_eq, List.all_eq_true] at h
  refine ⟨h.1, h.2.1, h.2.2.1, h.2.2.2.1, fun w hw => ?_⟩
  have := h.2.2.2.2.1 w hw
  unfold wordB at this
  simp only [Bool.and_eq_true] at this
  exact this.1
theorem stS_bd {n : Int} : ∀ {p : Option Int} {xs : List Int}, stS n p xs = true → ∀ a ∈ xs, 0 ≤ a ∧ a ≤ n - 1
  | p, [], _, a, ha => by simp at ha
  | p, y :: ys, h, a, ha => by
    unfold stS at h
    simp only [Bool.and_eq_true, decide_eq_true_eq] at h
    rcases List.mem_cons.1 ha with rfl | ha
    · exact h.1
    · exact stS_bd h.2.2 a ha
theorem nums_bd {x : DImage} (h : imageOkF x = true) : ∀ n ∈ numsF x, 0 ≤ n ∧ n ≤ 1000000000 := by
  obtain ⟨h1, h2, h3, h4, h5⟩ := imageOk_parts h
  intro n hn
  unfold numsF at hn
  simp only [List.mem_append, List.mem_cons, List.mem_nil_iff, or_false] at hn
  rcases hn with ((rfl | hn) | (rfl | hn)) | rfl
  · omega
  · exact mid_bd h5 n hn
  · omega
  · have := stS_bd h4 n hn; omega
  · omega
theorem nums_len {x : DImage} : (numsF x).length = 2 * x.Text.length + x.Starts.length + 3 := by
  unfold numsF
  simp only [List.length_append, List.length_cons, List.length_nil, midF_len]; omega
def imageTextF (x : DImage) : List UInt8 × Bool := if imageOkF x = true then sealF (varsF (numsF x)) else ([], false)
theorem imageText_len (x : DImage) (h : imageOkF x = true) : (varsF (numsF x)).length ≤ 100000 := by
  have h1 := varsF_len (ns := numsF x) fun n hn => by have := nums_bd h n hn; omega
  rw [nums_len] at h1
  have := imageOk_parts h
  omega
def okM (x : DMachine) : Prop := (x.Image.Text.length ≤ 1048576 ∧ x.Image.Starts.length ≤ 1048576 ∧ x.Mem.length ≤ 1048576 ∧ x.Cores.length ≤ 1048576 ∧ x.Input.length ≤ 1048576 ∧ x.Events.length ≤ 1048576) ∧ (x.Kernel.Gates.length ≤ 1048576 ∧ x.Kernel.Saved.length ≤ 1048576 ∧ x.Kernel.Ready.length ≤ 1048576 ∧ x.Kernel.Over.length ≤ 1048576) ∧ (∀ y ∈ x.Kernel.Gates, y.Waits.length + y.Queues.length ≤ 1048575) ∧ (∀ y ∈ x.Kernel.Saved, y.Regs.length ≤ 1048576) ∧ (∀ y ∈ x.Cores, y.Regs.length ≤ 1048576)
theorem sem_spec_l21Copy (x : DMachine) (h : okM x) : S_spec_l21Copy.sem [.agg (cMachine x)] = some (.agg (cMachine x), []) := by
  obtain ⟨⟨hT, hS, hM, hC, hI, hE⟩, ⟨hG, hs, hr, ho⟩, hGa, hSa, hCa⟩ := h
  have h1 : x.Image.Text.length * 8 ≤ 70368744177664 := by omega
  have h2 : x.Image.Starts.length * 8 ≤ 70368744177664 := by omega
  have h3 : x.Mem.length * 8 ≤ 70368744177664 := by omega
  have h4 : x.Input.length * 8 ≤ 70368744177664 := by omega
  have h5 : x.Events.length * 24 ≤ 70368744177664 := by omega
  have hk := sem_spec_l20Copy x.Kernel hG hs hr ho (fun y hy => Nat.le_trans (hGa y hy) (by omega)) hSa
  simp only [cKernel] at hk
  have loop0 : loopV X_spec_l21Copy 0 [1, 2, 3, 4] [(1, [1, 2, 3])] B0_spec_l21Copy ⟨[(1, .ptr ⟨0, none, 0⟩ 12 0 0), (2, .ptr ⟨1, none, 0⟩ 12 0 0), (3, .ptr ⟨12, none, 0⟩ 12 0 0), (4, .int .i64 0)], [some ⟨true, 0, 12, [cMachine x]⟩, some ⟨true, 0, 12, [[.sl ⟨2, none, 0⟩ 1 0 0, .sl ⟨3, none, 0⟩ 1 0 0, .int .i64 0, .sl ⟨4, none, 0⟩ 1 0 0, .sl ⟨5, none, 0⟩ 3 0 0, .sl ⟨6, none, 0⟩ 3 0 0, .sl ⟨7, none, 0⟩ 1 0 0, .sl ⟨8, none, 0⟩ 3 0 0, .sl ⟨9, none, 0⟩ 1 0 0, .sl ⟨10, none, 0⟩ 1 0 0, .sl ⟨11, none, 0⟩ 3 0 0, .bool false]]⟩, some ⟨false, 0, 1, []⟩, some ⟨false, 0, 1, []⟩, some ⟨false, 0, 1, []⟩, some ⟨false, 0, 3, []⟩, some ⟨false, 0, 3, []⟩, some ⟨false, 0, 1, []⟩, some ⟨false, 0, 3, []⟩, some ⟨false, 0, 1, []⟩, some ⟨false, 0, 1, []⟩, some ⟨false, 0, 3, []⟩, some ⟨true, 0, 12, [[.sl ⟨13, none, 0⟩ 1 0 x.Image.Text.length, .sl ⟨14, none, 0⟩ 1 0 x.Image.Starts.length, .int .i64 x.Image.Size, .sl ⟨15, none, 0⟩ 1 0 x.Mem.length, .sl ⟨16, none, 0⟩ 3 0 ([] : List DCore).length, .tree 3 (x.Kernel.Gates.map cGate), .tree 1 (x.Kernel.Ready.map cI), .tree 3 (x.Kernel.Saved.map cCore), .tree 1 (x.Kernel.Over.map cB), .tree 1 (x.Input.map cI), .tree 3 (x.Events.map cEvent), .bool x.Stopped]]⟩, some ⟨false, 0, 1, x.Image.Text.map cI⟩, some ⟨false, 0, 1, x.Image.Starts.map cI⟩, some ⟨false, 0, 1, x.Mem.map cI⟩, some ⟨false, 0, 3, ([] : List DCore).map cCore⟩]⟩ = some (.exit 0, ⟨[(1, .ptr ⟨0, none, 0⟩ 12 0 0), (2, .ptr ⟨1, none, 0⟩ 12 0 0), (3, .ptr ⟨12, none, 0⟩ 12 0 0)], [some ⟨true, 0, 12, [cMachine x]⟩, some ⟨true, 0, 12, [[.sl ⟨2, none, 0⟩ 1 0 0, .sl ⟨3, none, 0⟩ 1 0 0, .int .i64 0, .sl ⟨4, none, 0⟩ 1 0 0, .sl ⟨5, none, 0⟩ 3 0 0, .sl ⟨6, none, 0⟩ 3 0 0, .sl ⟨7, none, 0⟩ 1 0 0, .sl ⟨8, none, 0⟩ 3 0 0, .sl ⟨9, none, 0⟩ 1 0 0, .sl ⟨10, none, 0⟩ 1 0 0, .sl ⟨11, none, 0⟩ 3 0 0, .bool false]]⟩, some ⟨false, 0, 1, []⟩, some ⟨false, 0, 1, []⟩, some ⟨false, 0, 1, []⟩, some ⟨false, 0, 3, []⟩, some ⟨false, 0, 3, []⟩, some ⟨false, 0, 1, []⟩, some ⟨false, 0, 3, []⟩, some ⟨false, 0, 1, []⟩, some ⟨false, 0, 1, []⟩, some ⟨false, 0, 3, []⟩, some ⟨true, 0, 12, [[.sl ⟨13, none, 0⟩ 1 0 x.Image.Text.length, .sl ⟨14, none, 0⟩ 1 0 x.Image.Starts.length, .int .i64 x.Image.Size, .sl ⟨15, none, 0⟩ 1 0 x.Mem.length, .sl ⟨16, none, 0⟩ 3 0 (x.Cores).length, .tree 3 (x.Kernel.Gates.map cGate), .tree 1 (x.Kernel.Ready.map cI), .tree 3 (x.Kernel.Saved.map cCore), .tree 1 (x.Kernel.Over.map cB), .tree 1 (x.Input.map cI), .tree 3 (x.Events.map cEvent), .bool x.Stopped]]⟩, some ⟨false, 0, 1, x.Image.Text.map cI⟩, some ⟨false, 0, 1, x.Image.Starts.map cI⟩, some ⟨false, 0, 1, x.Mem.map cI⟩, some ⟨false, 0, 3, (x.Cores).map cCore⟩]⟩) := by
    refine loop_list x.Cores (fun i (gs : List DCore) => gs.length = i) (fun i gs => ⟨[(1, .ptr ⟨0, none, 0⟩ 12 0 0), (2, .ptr ⟨1, none, 0⟩ 12 0 0), (3, .ptr ⟨12, none, 0⟩ 12 0 0), (4, .int .i64 ((i : Nat) : Int))], [some ⟨true, 0, 12, [cMachine x]⟩, some ⟨true, 0, 12, [[.sl ⟨2, none, 0⟩ 1 0 0, .sl ⟨3, none, 0⟩ 1 0 0, .int .i64 0, .sl ⟨4, none, 0⟩ 1 0 0, .sl ⟨5, none, 0⟩ 3 0 0, .sl ⟨6, none, 0⟩ 3 0 0, .sl ⟨7, none, 0⟩ 1 0 0, .sl ⟨8, none, 0⟩ 3 0 0, .sl ⟨9, none, 0⟩ 1 0 0, .sl ⟨10, none, 0⟩ 1 0 0, .sl ⟨11, none, 0⟩ 3 0 0, .bool false]]⟩, some ⟨false, 0, 1, []⟩, some ⟨false, 0, 1, []⟩, some ⟨false, 0, 1, []⟩, some ⟨false, 0, 3, []⟩, some ⟨false, 0, 3, []⟩, some ⟨false, 0, 1, []⟩, some ⟨false, 0, 3, []⟩, some ⟨false, 0, 1, []⟩, some ⟨false, 0, 1, []⟩, some ⟨false, 0, 3, []⟩, some ⟨true, 0, 12, [[.sl ⟨13, none, 0⟩ 1 0 x.Image.Text.length, .sl ⟨14, none, 0⟩ 1 0 x.Image.Starts.length, .int .i64 x.Image.Size, .sl ⟨15, none, 0⟩ 1 0 x.Mem.length, .sl ⟨16, none, 0⟩ 3 0 (gs).length, .tree 3 (x.Kernel.Gates.map cGate), .tree 1 (x.Kernel.Ready.map cI), .tree 3 (x.Kernel.Saved.map cCore), .tree 1 (x.Kernel.Over.map cB), .tree 1 (x.Input.map cI), .tree 3 (x.Events.map cEvent), .bool x.Stopped]]⟩, some ⟨false, 0, 1, x.Image.Text.map cI⟩, some ⟨false, 0, 1, x.Image.Starts.map cI⟩, some ⟨false, 0, 1, x.Mem.map cI⟩, some ⟨false, 0, 3, (gs).map cCore⟩]⟩) (fun rest gs => some (.exit 0, ⟨[(1, .ptr ⟨0, none, 0⟩ 12 0 0), (2, .ptr ⟨1, none, 0⟩ 12 0 0), (3, .ptr ⟨12, none, 0⟩ 12 0 0)], [some ⟨true, 0, 12, [cMachine x]⟩, some ⟨true, 0, 12, [[.sl ⟨2, none, 0⟩ 1 0 0, .sl ⟨3, none, 0⟩ 1 0 0, .int .i64 0, .sl ⟨4, none, 0⟩ 1 0 0, .sl ⟨5, none, 0⟩ 3 0 0, .sl ⟨6, none, 0⟩ 3 0 0, .sl ⟨7, none, 0⟩ 1 0 0, .sl ⟨8, none, 0⟩ 3 0 0, .sl ⟨9, none, 0⟩ 1 0 0, .sl ⟨10, none, 0⟩ 1 0 0, .sl ⟨11, none, 0⟩ 3 0 0, .bool false]]⟩, some ⟨false, 0, 1, []⟩, some ⟨false, 0, 1, []⟩, some ⟨false, 0, 1, []⟩, some ⟨false, 0, 3, []⟩, some ⟨false, 0, 3, []⟩, some ⟨false, 0, 1, []⟩, some ⟨false, 0, 3, []⟩, some ⟨false, 0, 1, []⟩, some ⟨false, 0, 1, []⟩, some ⟨false, 0, 3, []⟩, some ⟨true, 0, 12, [[.sl ⟨13, none, 0⟩ 1 0 x.Image.Text.length, .sl ⟨14, none, 0⟩ 1 0 x.Image.Starts.length, .int .i64 x.Image.Size, .sl ⟨15, none, 0⟩ 1 0 x.Mem.length, .sl ⟨16, none, 0⟩ 3 0 (gs ++ rest).length, .tree 3 (x.Kernel.Gates.map cGate), .tree 1 (x.Kernel.Ready.map cI), .tree 3 (x.Kernel.Saved.map cCore), .tree 1 (x.Kernel.Over.map cB), .tree 1 (x.Input.map cI), .tree 3 (x.Events.map cEvent), .bool x.Stopped]]⟩, some ⟨false, 0, 1, x.Image.Text.map cI⟩, some ⟨false, 0, 1, x.Image.Starts.map cI⟩, some ⟨false, 0, 1, x.Mem.map cI⟩, some ⟨false, 0, 3, (gs ++ rest).map cCore⟩]⟩)) ?_ ?_ [] rfl
    · rintro gs hl
      rw [loopV_by B0_spec_l21Copy.eq_1]
      simp only [EG, EL, simprocAttr, FB, int_lt_irrefl, List.append_nil]
    · rintro i hi0 y rest gs rfl rfl hl ih
      have hi : (i : Int) < (x.Cores.length : Int) := by omega
      have hc : (gs.length + 1) * 40 ≤ 70368744177664 := by omega
      have hb := hCa _ (List.getElem_mem hi0)
      have i1 := ih (gs ++ [x.Cores[i]]) (by simp; omega)
      try simp only [EG, EL, simprocAttr, FB, List.append_assoc] at i1
      rw [loopV_by B0_spec_l21Copy.eq_1]
      simp (maxSteps := 10000000) (disch := first | assumption | omega) only [EG, EL, simprocAttr, FB, ED, FT, hi, wrap_succ, getRow _ _ hi0, hc, cx_spec_l21Copy, cl_spec_l15Copy, sem_spec_l15Copy]
      try simp only [cMachine, EG, EL, simprocAttr, FB, List.append_assoc] at i1
      try simp only [cMachine, EG, EL, simprocAttr, FB, List.append_assoc]
      exact i1
  try simp only [EG, EL, simprocAttr, FB] at loop0
  rw [sg_spec_l21Copy, sem_go]
  simp (maxSteps := 10000000) (disch := first | assumption | omega) only [cMachine, F_spec_l21Copy, params, EG, EL, simprocAttr, FB, ED, FT, cx_spec_l21Copy, h1, h2, h3, h4, h5, loop0, cl_spec_l20Copy, hk]

end Go.Proofs.YtdhmlhlpdejefaaGreat.AI

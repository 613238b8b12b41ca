/- What these functions give, and that the law FnExactMachineVerdict gives true. -/
import Derived.Test.YthdbglhdadinkaaCFnExactMachineVerdict
namespace Go.Proofs.Ythdbglhdadinkaa.AI
open Go.Proofs
set_option linter.all false
set_option maxRecDepth 100000
structure DNode where
  Kind : Int
  Num : Int
  Name : ByteArray
  More : ByteArray
  To : ByteArray
  Kids : List (Int)
abbrev cNode (x : DNode) : List AV := [.int .i64 x.Kind, .int .i64 x.Num, .str x.Name, .str x.More, .str x.To, .tree 1 (x.Kids.map cI)]
def wtNode (x : DNode) : Nat := x.Name.size + x.More.size + x.To.size + x.Kids.length
def gdNode (x : DNode) : Prop := i64 x.Kind ∧ i64 x.Num ∧ gdS x.Name ∧ gdS x.More ∧ gdS x.To ∧ (x.Kids.length ≤ 140737488351232 ∧ ∀ y ∈ x.Kids, i64 y)
def mkNode (x : DNode) (k : Int) : DNode := { Kind := k, Num := (k + 1), Name := (mT ((k + 1) + 1)), More := (mT (((k + 1) + 1) + 1)), To := (mT ((((k + 1) + 1) + 1) + 1)), Kids := mkL mkI ct1 x.Kids (((((k + 1) + 1) + 1) + 1) + 1) }
def ctNode (x : DNode) : Nat := 1 + 1 + 1 + 1 + 1 + tot ct1 x.Kids
theorem ctle_Node (x : DNode) : ctNode x ≤ 5 * (1 + wtNode x) := by
  have h0 := tot_ct1 x.Kids
  unfold ctNode
  simp only [wtNode] at *
  omega
theorem tctle_Node (xs : List DNode) : tot ctNode xs ≤ 5 * (xs.length + tot wtNode xs) := tot_ct_le ctle_Node xs
def mwNode (x : DNode) (k : Int) : DNode := { Kind := x.Kind, Num := x.Num, Name := x.Name, More := x.More, To := x.To, Kids := mkL mkI ct1 x.Kids k }
def cwNode (x : DNode) : Nat := tot ct1 x.Kids
theorem set_cNode {xs : List DNode} {n : Nat} {x : DNode} : (xs.map cNode).set n [.int .i64 x.Kind, .int .i64 x.Num, .str x.Name, .str x.More, .str x.To, .tree 1 (x.Kids.map cI)] = (xs.set n x).map cNode := by rw [List.map_set]
theorem snoc_cNode {xs : List DNode} {x : DNode} : xs.map cNode ++ [[.int .i64 x.Kind, .int .i64 x.Num, .str x.Name, .str x.More, .str x.To, .tree 1 (x.Kids.map cI)]] = (xs ++ [x]).map cNode := by simp
theorem solid_cNode {xs : List DNode} : solid (xs.map cNode) = true := solid_map fun _ => rfl
structure DEntry where
  Name : ByteArray
  Param : ByteArray
  Body : Int
abbrev cEntry (x : DEntry) : List AV := [.str x.Name, .str x.Param, .int .i64 x.Body]
def wtEntry (x : DEntry) : Nat := x.Name.size + x.Param.size
def gdEntry (x : DEntry) : Prop := gdS x.Name ∧ gdS x.Param ∧ i64 x.Body
def mkEntry (x : DEntry) (k : Int) : DEntry := { Name := (mT k), Param := (mT (k + 1)), Body := ((k + 1) + 1) }
def ctEntry (x : DEntry) : Nat := 1 + 1 + 1
theorem ctle_Entry (x : DEntry) : ctEntry x ≤ 3 * (1 + wtEntry x) := by
  unfold ctEntry
  simp only [wtEntry] at *
  omega
theorem tctle_Entry (xs : List DEntry) : tot ctEntry xs ≤ 3 * (xs.length + tot wtEntry xs) := tot_ct_le ctle_Entry xs
theorem flat_cEntry {xs : List DEntry} : flat (xs.map cEntry) = true := flat_map fun _ => rfl
theorem set_cEntry {xs : List DEntry} {n : Nat} {x : DEntry} : (xs.map cEntry).set n [.str x.Name, .str x.Param, .int .i64 x.Body] = (xs.set n x).map cEntry := by rw [List.map_set]
theorem snoc_cEntry {xs : List DEntry} {x : DEntry} : xs.map cEntry ++ [[.str x.Name, .str x.Param, .int .i64 x.Body]] = (xs ++ [x]).map cEntry := by simp
theorem solid_cEntry {xs : List DEntry} : solid (xs.map cEntry) = true := solid_map fun _ => rfl
structure DMonitor where
  Name : ByteArray
  Vars : List (ByteArray)
  Queues : List (ByteArray)
  Entries : List (DEntry)
abbrev cMonitor (x : DMonitor) : List AV := [.str x.Name, .tree 1 (x.Vars.map cS), .tree 1 (x.Queues.map cS), .tree 3 (x.Entries.map cEntry)]
def wtMonitor (x : DMonitor) : Nat := x.Name.size + (x.Vars.length + tot wtS x.Vars) + (x.Queues.length + tot wtS x.Queues) + (x.Entries.length + tot wtEntry x.Entries)
def gdMonitor (x : DMonitor) : Prop := gdS x.Name ∧ (x.Vars.length ≤ 140737488351232 ∧ ∀ y ∈ x.Vars, gdS y) ∧ (x.Queues.length ≤ 140737488351232 ∧ ∀ y ∈ x.Queues, gdS y) ∧ (x.Entries.length ≤ 140737488351232 ∧ ∀ y ∈ x.Entries, gdEntry y)
def mkMonitor (x : DMonitor) (k : Int) : DMonitor := { Name := (mT k), Vars := mkL mkS ct1 x.Vars (k + 1), Queues := mkL mkS ct1 x.Queues ((k + 1) + (tot ct1 x.Vars : Nat)), Entries := mkL mkEntry ctEntry x.Entries (((k + 1) + (tot ct1 x.Vars : Nat)) + (tot ct1 x.Queues : Nat)) }
def ctMonitor (x : DMonitor) : Nat := 1 + tot ct1 x.Vars + tot ct1 x.Queues + tot ctEntry x.Entries
theorem ctle_Monitor (x : DMonitor) : ctMonitor x ≤ 3 * (1 + wtMonitor x) := by
  have h0 := tot_ct1 x.Vars
  have h1 := tot_ct1 x.Queues
  have h2 := tctle_Entry x.Entries
  unfold ctMonitor
  simp only [wtMonitor] at *
  omega
theorem tctle_Monitor (xs : List DMonitor) : tot ctMonitor xs ≤ 3 * (xs.length + tot wtMonitor xs) := tot_ct_le ctle_Monitor xs
def mwMonitor (x : DMonitor) (k : Int) : DMonitor := { Name := x.Name, Vars := mkL mkS ct1 x.Vars k, Queues := mkL mkS ct1 x.Queues (k + (tot ct1 x.Vars : Nat)), Entries := mkL mkEntry ctEntry x.Entries ((k + (tot ct1 x.Vars : Nat)) + (tot ct1 x.Queues : Nat)) }
def cwMonitor (x : DMonitor) : Nat := tot ct1 x.Vars + tot ct1 x.Queues + tot ctEntry x.Entries
theorem set_cMonitor {xs : List DMonitor} {n : Nat} {x : DMonitor} : (xs.map cMonitor).set n [.str x.Name, .tree 1 (x.Vars.map cS), .tree 1 (x.Queues.map cS), .tree 3 (x.Entries.map cEntry)] = (xs.set n x).map cMonitor := by rw [List.map_set]
theorem snoc_cMonitor {xs : List DMonitor} {x : DMonitor} : xs.map cMonitor ++ [[.str x.Name, .tree 1 (x.Vars.map cS), .tree 1 (x.Queues.map cS), .tree 3 (x.Entries.map cEntry)]] = (xs ++ [x]).map cMonitor := by simp
theorem solid_cMonitor {xs : List DMonitor} : solid (xs.map cMonitor) = true := solid_map fun _ => rfl
structure DProcess where
  Name : ByteArray
  Uses : List (ByteArray)
  Vars : List (ByteArray)
  Body : Int
abbrev cProcess (x : DProcess) : List AV := [.str x.Name, .tree 1 (x.Uses.map cS), .tree 1 (x.Vars.map cS), .int .i64 x.Body]
def wtProcess (x : DProcess) : Nat := x.Name.size + (x.Uses.length + tot wtS x.Uses) + (x.Vars.length + tot wtS x.Vars)
def gdProcess (x : DProcess) : Prop := gdS x.Name ∧ (x.Uses.length ≤ 140737488351232 ∧ ∀ y ∈ x.Uses, gdS y) ∧ (x.Vars.length ≤ 140737488351232 ∧ ∀ y ∈ x.Vars, gdS y) ∧ i64 x.Body
def mkProcess (x : DProcess) (k : Int) : DProcess := { Name := (mT k), Uses := mkL mkS ct1 x.Uses (k + 1), Vars := mkL mkS ct1 x.Vars ((k + 1) + (tot ct1 x.Uses : Nat)), Body := (((k + 1) + (tot ct1 x.Uses : Nat)) + (tot ct1 x.Vars : Nat)) }
def ctProcess (x : DProcess) : Nat := 1 + tot ct1 x.Uses + tot ct1 x.Vars + 1
theorem ctle_Process (x : DProcess) : ctProcess x ≤ 2 * (1 + wtProcess x) := by
  have h0 := tot_ct1 x.Uses
  have h1 := tot_ct1 x.Vars
  unfold ctProcess
  simp only [wtProcess] at *
  omega
theorem tctle_Process (xs : List DProcess) : tot ctProcess xs ≤ 2 * (xs.length + tot wtProcess xs) := tot_ct_le ctle_Process xs
def mwProcess (x : DProcess) (k : Int) : DProcess := { Name := x.Name, Uses := mkL mkS ct1 x.Uses k, Vars := mkL mkS ct1 x.Vars (k + (tot ct1 x.Uses : Nat)), Body := x.Body }
def cwProcess (x : DProcess) : Nat := tot ct1 x.Uses + tot ct1 x.Vars
theorem set_cProcess {xs : List DProcess} {n : Nat} {x : DProcess} : (xs.map cProcess).set n [.str x.Name, .tree 1 (x.Uses.map cS), .tree 1 (x.Vars.map cS), .int .i64 x.Body] = (xs.set n x).map cProcess := by rw [List.map_set]
theorem snoc_cProcess {xs : List DProcess} {x : DProcess} : xs.map cProcess ++ [[.str x.Name, .tree 1 (x.Uses.map cS), .tree 1 (x.Vars.map cS), .int .i64 x.Body]] = (xs ++ [x]).map cProcess := by simp
theorem solid_cProcess {xs : List DProcess} : solid (xs.map cProcess) = true := solid_map fun _ => rfl
structure DProgram where
  Nodes : List (DNode)
  Monitors : List (DMonitor)
  Processes : List (DProcess)
abbrev cProgram (x : DProgram) : List AV := [.tree 6 (x.Nodes.map cNode), .tree 4 (x.Monitors.map cMonitor), .tree 4 (x.Processes.map cProcess)]
def wtProgram (x : DProgram) : Nat := (x.Nodes.length + tot wtNode x.Nodes) + (x.Monitors.length + tot wtMonitor x.Monitors) + (x.Processes.length + tot wtProcess x.Processes)
def gdProgram (x : DProgram) : Prop := (x.Nodes.length ≤ 140737488351232 ∧ ∀ y ∈ x.Nodes, gdNode y) ∧ (x.Monitors.length ≤ 140737488351232 ∧ ∀ y ∈ x.Monitors, gdMonitor y) ∧ (x.Processes.length ≤ 140737488351232 ∧ ∀ y ∈ x.Processes, gdProcess y)
def mkProgram (x : DProgram) (k : Int) : DProgram := { Nodes := mkL mkNode ctNode x.Nodes k, Monitors := mkL mkMonitor ctMonitor x.Monitors (k + (tot ctNode x.Nodes : Nat)), Processes := mkL mkProcess ctProcess x.Processes ((k + (tot ctNode x.Nodes : Nat)) + (tot ctMonitor x.Monitors : Nat)) }
def ctProgram (x : DProgram) : Nat := tot ctNode x.Nodes + tot ctMonitor x.Monitors + tot ctProcess x.Processes
theorem ctle_Program (x : DProgram) : ctProgram x ≤ 5 * (1 + wtProgram x) := by
  have h0 := tctle_Node x.Nodes
  have h1 := tctle_Monitor x.Monitors
  have h2 := tctle_Process x.Processes
  unfold ctProgram
  simp only [wtProgram] at *
  omega
theorem tctle_Program (xs : List DProgram) : tot ctProgram xs ≤ 5 * (xs.length + tot wtProgram xs) := tot_ct_le ctle_Program xs
def mwProgram (x : DProgram) (k : Int) : DProgram := { Nodes := mkL mkNode ctNode x.Nodes k, Monitors := mkL mkMonitor ctMonitor x.Monitors (k + (tot ctNode x.Nodes : Nat)), Processes := mkL mkProcess ctProcess x.Processes ((k + (tot ctNode x.Nodes : Nat)) + (tot ctMonitor x.Monitors : Nat)) }
def cwProgram (x : DProgram) : Nat := tot ctNode x.Nodes + tot ctMonitor x.Monitors + tot ctProcess x.Processes
theorem set_cProgram {xs : List DProgram} {n : Nat} {x : DProgram} : (xs.map cProgram).set n [.tree 6 (x.Nodes.map cNode), .tree 4 (x.Monitors.map cMonitor), .tree 4 (x.Processes.map cProcess)] = (xs.set n x).map cProgram := by rw [List.map_set]
theorem snoc_cProgram {xs : List DProgram} {x : DProgram} : xs.map cProgram ++ [[.tree 6 (x.Nodes.map cNode), .tree 4 (x.Monitors.map cMonitor), .tree 4 (x.Processes.map cProcess)]] = (xs ++ [x]).map cProgram := by simp
theorem solid_cProgram {xs : List DProgram} : solid (xs.map cProgram) = true := solid_map fun _ => rfl
structure DEnv where
  Names : List (ByteArray)
  Vals : List (Int)
abbrev cEnv (x : DEnv) : List AV := [.tree 1 (x.Names.map cS), .tree 1 (x.Vals.map cI)]
def wtEnv (x : DEnv) : Nat := (x.Names.length + tot wtS x.Names) + x.Vals.length
def gdEnv (x : DEnv) : Prop := (x.Names.length ≤ 140737488351232 ∧ ∀ y ∈ x.Names, gdS y) ∧ (x.Vals.length ≤ 140737488351232 ∧ ∀ y ∈ x.Vals, i64 y)
def mkEnv (x : DEnv) (k : Int) : DEnv := { Names := mkL mkS ct1 x.Names k, Vals := mkL mkI ct1 x.Vals (k + (tot ct1 x.Names : Nat)) }
def ctEnv (x : DEnv) : Nat := tot ct1 x.Names + tot ct1 x.Vals
theorem ctle_Env (x : DEnv) : ctEnv x ≤ 1 * (1 + wtEnv x) := by
  have h0 := tot_ct1 x.Names
  have h1 := tot_ct1 x.Vals
  unfold ctEnv
  simp only [wtEnv] at *
  omega
theorem tctle_Env (xs : List DEnv) : tot ctEnv xs ≤ 1 * (xs.length + tot wtEnv xs) := tot_ct_le ctle_Env xs
def mwEnv (x : DEnv) (k : Int) : DEnv := { Names := mkL mkS ct1 x.Names k, Vals := mkL mkI ct1 x.Vals (k + (tot ct1 x.Names : Nat)) }
def cwEnv (x : DEnv) : Nat := tot ct1 x.Names + tot ct1 x.Vals
theorem set_cEnv {xs : List DEnv} {n : Nat} {x : DEnv} : (xs.map cEnv).set n [.tree 1 (x.Names.map cS), .tree 1 (x.Vals.map cI)] = (xs.set n x).map cEnv := by rw [List.map_set]
theorem snoc_cEnv {xs : List DEnv} {x : DEnv} : xs.map cEnv ++ [[.tree 1 (x.Names.map cS), .tree 1 (x.Vals.map cI)]] = (xs ++ [x]).map cEnv := by simp
theorem solid_cEnv {xs : List DEnv} : solid (xs.map cEnv) = true := solid_map fun _ => rfl
structure DThread where
  Todo : List (Int)
  Env : DEnv
  Fault : Int
abbrev cThread (x : DThread) : List AV := [.tree 1 (x.Todo.map cI), .tree 1 (x.Env.Names.map cS), .tree 1 (x.Env.Vals.map cI), .int .i64 x.Fault]
def wtThread (x : DThread) : Nat := x.Todo.length + (wtEnv x.Env)
def gdThread (x : DThread) : Prop := (x.Todo.length ≤ 140737488351232 ∧ ∀ y ∈ x.Todo, i64 y) ∧ gdEnv x.Env ∧ i64 x.Fault
def mkThread (x : DThread) (k : Int) : DThread := { Todo := mkL mkI ct1 x.Todo k, Env := { Names := mkL mkS ct1 x.Env.Names (k + (tot ct1 x.Todo : Nat)), Vals := mkL mkI ct1 x.Env.Vals ((k + (tot ct1 x.Todo : Nat)) + (tot ct1 x.Env.Names : Nat)) }, Fault := (((k + (tot ct1 x.Todo : Nat)) + (tot ct1 x.Env.Names : Nat)) + (tot ct1 x.Env.Vals : Nat)) }
def ctThread (x : DThread) : Nat := tot ct1 x.Todo + tot ct1 x.Env.Names + tot ct1 x.Env.Vals + 1
theorem ctle_Thread (x : DThread) : ctThread x ≤ 1 * (1 + wtThread x) := by
  have h0 := tot_ct1 x.Todo
  have h1 := tot_ct1 x.Env.Names
  have h2 := tot_ct1 x.Env.Vals
  unfold ctThread
  simp only [wtThread, wtEnv] at *
  omega
theorem tctle_Thread (xs : List DThread) : tot ctThread xs ≤ 1 * (xs.length + tot wtThread xs) := tot_ct_le ctle_Thread xs
def mwThread (x : DThread) (k : Int) : DThread := { Todo := mkL mkI ct1 x.Todo k, Env := { Names := mkL mkS ct1 x.Env.Names (k + (tot ct1 x.Todo : Nat)), Vals := mkL mkI ct1 x.Env.Vals ((k + (tot ct1 x.Todo : Nat)) + (tot ct1 x.Env.Names : Nat)) }, Fault := x.Fault }
def cwThread (x : DThread) : Nat := tot ct1 x.Todo + tot ct1 x.Env.Names + tot ct1 x.Env.Vals
theorem set_cThread {xs : List DThread} {n : Nat} {x : DThread} : (xs.map cThread).set n [.tree 1 (x.Todo.map cI), .tree 1 (x.Env.Names.map cS), .tree 1 (x.Env.Vals.map cI), .int .i64 x.Fault] = (xs.set n x).map cThread := by rw [List.map_set]
theorem snoc_cThread {xs : List DThread} {x : DThread} : xs.map cThread ++ [[.tree 1 (x.Todo.map cI), .tree 1 (x.Env.Names.map cS), .tree 1 (x.Env.Vals.map cI), .int .i64 x.Fault]] = (xs ++ [x]).map cThread := by simp
theorem solid_cThread {xs : List DThread} : solid (xs.map cThread) = true := solid_map fun _ => rfl
structure DGate where
  Owner : Int
  Waits : List (Int)
  Queues : List (Int)
abbrev cGate (x : DGate) : List AV := [.int .i64 x.Owner, .tree 1 (x.Waits.map cI), .tree 1 (x.Queues.map cI)]
def wtGate (x : DGate) : Nat := x.Waits.length + x.Queues.length
def gdGate (x : DGate) : Prop := i64 x.Owner ∧ (x.Waits.length ≤ 140737488351232 ∧ ∀ y ∈ x.Waits, i64 y) ∧ (x.Queues.length ≤ 140737488351232 ∧ ∀ y ∈ x.Queues, i64 y)
def mkGate (x : DGate) (k : Int) : DGate := { Owner := k, Waits := mkL mkI ct1 x.Waits (k + 1), Queues := mkL mkI ct1 x.Queues ((k + 1) + (tot ct1 x.Waits : Nat)) }
def ctGate (x : DGate) : Nat := 1 + tot ct1 x.Waits + tot ct1 x.Queues
theorem ctle_Gate (x : DGate) : ctGate x ≤ 1 * (1 + wtGate x) := by
  have h0 := tot_ct1 x.Waits
  have h1 := tot_ct1 x.Queues
  unfold ctGate
  simp only [wtGate] at *
  omega
theorem tctle_Gate (xs : List DGate) : tot ctGate xs ≤ 1 * (xs.length + tot wtGate xs) := tot_ct_le ctle_Gate xs
def mwGate (x : DGate) (k : Int) : DGate := { Owner := x.Owner, Waits := mkL mkI ct1 x.Waits k, Queues := mkL mkI ct1 x.Queues (k + (tot ct1 x.Waits : Nat)) }
def cwGate (x : DGate) : Nat := tot ct1 x.Waits + tot ct1 x.Queues
theorem set_cGate {xs : List DGate} {n : Nat} {x : DGate} : (xs.map cGate).set n [.int .i64 x.Owner, .tree 1 (x.Waits.map cI), .tree 1 (x.Queues.map cI)] = (xs.set n x).map cGate := by rw [List.map_set]
theorem snoc_cGate {xs : List DGate} {x : DGate} : xs.map cGate ++ [[.int .i64 x.Owner, .tree 1 (x.Waits.map cI), .tree 1 (x.Queues.map cI)]] = (xs ++ [x]).map cGate := by simp
theorem solid_cGate {xs : List DGate} : solid (xs.map cGate) = true := solid_map fun _ => rfl
structure DActor where
  Outer : DThread
  Inner : DThread
  Monitor : Int
  Entry : Int
  Ready : Bool
  Over : Bool
abbrev cActor (x : DActor) : List AV := [.tree 1 (x.Outer.Todo.map cI), .tree 1 (x.Outer.Env.Names.map cS), .tree 1 (x.Outer.Env.Vals.map cI), .int .i64 x.Outer.Fault, .tree 1 (x.Inner.Todo.map cI), .tree 1 (x.Inner.Env.Names.map cS), .tree 1 (x.Inner.Env.Vals.map cI), .int .i64 x.Inner.Fault, .int .i64 x.Monitor, .int .i64 x.Entry, .bool x.Ready, .bool x.Over]
def wtActor (x : DActor) : Nat := (wtThread x.Outer) + (wtThread x.Inner)
def gdActor (x : DActor) : Prop := gdThread x.Outer ∧ gdThread x.Inner ∧ i64 x.Monitor ∧ i64 x.Entry
def mkActor (x : DActor) (k : Int) : DActor := { Outer := { Todo := mkL mkI ct1 x.Outer.Todo k, Env := { Names := mkL mkS ct1 x.Outer.Env.Names (k + (tot ct1 x.Outer.Todo : Nat)), Vals := mkL mkI ct1 x.Outer.Env.Vals ((k + (tot ct1 x.Outer.Todo : Nat)) + (tot ct1 x.Outer.Env.Names : Nat)) }, Fault := (((k + (tot ct1 x.Outer.Todo : Nat)) + (tot ct1 x.Outer.Env.Names : Nat)) + (tot ct1 x.Outer.Env.Vals : Nat)) }, Inner := { Todo := mkL mkI ct1 x.Inner.Todo ((((k + (tot ct1 x.Outer.Todo : Nat)) + (tot ct1 x.Outer.Env.Names : Nat)) + (tot ct1 x.Outer.Env.Vals : Nat)) + 1), Env := { Names := mkL mkS ct1 x.Inner.Env.Names (((((k + (tot ct1 x.Outer.Todo : Nat)) + (tot ct1 x.Outer.Env.Names : Nat)) + (tot ct1 x.Outer.Env.Vals : Nat)) + 1) + (tot ct1 x.Inner.Todo : Nat)), Vals := mkL mkI ct1 x.Inner.Env.Vals ((((((k + (tot ct1 x.Outer.Todo : Nat)) + (tot ct1 x.Outer.Env.Names : Nat)) + (tot ct1 x.Outer.Env.Vals : Nat)) + 1) + (tot ct1 x.Inner.Todo : Nat)) + (tot ct1 x.Inner.Env.Names : Nat)) }, Fault := (((((((k + (tot ct1 x.Outer.Todo : Nat)) + (tot ct1 x.Outer.Env.Names : Nat)) + (tot ct1 x.Outer.Env.Vals : Nat)) + 1) + (tot ct1 x.Inner.Todo : Nat)) + (tot ct1 x.Inner.Env.Names : Nat)) + (tot ct1 x.Inner.Env.Vals : Nat)) }, Monitor := ((((((((k + (tot ct1 x.Outer.Todo : Nat)) + (tot ct1 x.Outer.Env.Names : Nat)) + (tot ct1 x.Outer.Env.Vals : Nat)) + 1) + (tot ct1 x.Inner.Todo : Nat)) + (tot ct1 x.Inner.Env.Names : Nat)) + (tot ct1 x.Inner.Env.Vals : Nat)) + 1), Entry := (((((((((k + (tot ct1 x.Outer.Todo : Nat)) + (tot ct1 x.Outer.Env.Names : Nat)) + (tot ct1 x.Outer.Env.Vals : Nat)) + 1) + (tot ct1 x.Inner.Todo : Nat)) + (tot ct1 x.Inner.Env.Names : Nat)) + (tot ct1 x.Inner.Env.Vals : Nat)) + 1) + 1), Ready := (decide (Int.tmod ((((((((((k + (tot ct1 x.Outer.Todo : Nat)) + (tot ct1 x.Outer.Env.Names : Nat)) + (tot ct1 x.Outer.Env.Vals : Nat)) + 1) + (tot ct1 x.Inner.Todo : Nat)) + (tot ct1 x.Inner.Env.Names : Nat)) + (tot ct1 x.Inner.Env.Vals : Nat)) + 1) + 1) + 1) 3 = 0)), Over := (decide (Int.tmod (((((((((((k + (tot ct1 x.Outer.Todo : Nat)) + (tot ct1 x.Outer.Env.Names : Nat)) + (tot ct1 x.Outer.Env.Vals : Nat)) + 1) + (tot ct1 x.Inner.Todo : Nat)) + (tot ct1 x.Inner.Env.Names : Nat)) + (tot ct1 x.Inner.Env.Vals : Nat)) + 1) + 1) + 1) + 1) 3 = 0)) }
def ctActor (x : DActor) : Nat := tot ct1 x.Outer.Todo + tot ct1 x.Outer.Env.Names + tot ct1 x.Outer.Env.Vals + 1 + tot ct1 x.Inner.Todo + tot ct1 x.Inner.Env.Names + tot ct1 x.Inner.Env.Vals + 1 + 1 + 1 + 1 + 1
theorem ctle_Actor (x : DActor) : ctActor x ≤ 6 * (1 + wtActor x) := by
  have h0 := tot_ct1 x.Outer.Todo
  have h1 := tot_ct1 x.Outer.Env.Names
  have h2 := tot_ct1 x.Outer.Env.Vals
  have h3 := tot_ct1 x.Inner.Todo
  have h4 := tot_ct1 x.Inner.Env.Names
  have h5 := tot_ct1 x.Inner.Env.Vals
  unfold ctActor
  simp only [wtActor, wtThread, wtEnv] at *
  omega
theorem tctle_Actor (xs : List DActor) : tot ctActor xs ≤ 6 * (xs.length + tot wtActor xs) := tot_ct_le ctle_Actor xs
def mwActor (x : DActor) (k : Int) : DActor := { Outer := { Todo := mkL mkI ct1 x.Outer.Todo k, Env := { Names := mkL mkS ct1 x.Outer.Env.Names (k + (tot ct1 x.Outer.Todo : Nat)), Vals := mkL mkI ct1 x.Outer.Env.Vals ((k + (tot ct1 x.Outer.Todo : Nat)) + (tot ct1 x.Outer.Env.Names : Nat)) }, Fault := x.Outer.Fault }, Inner := { Todo := mkL mkI ct1 x.Inner.Todo (((k + (tot ct1 x.Outer.Todo : Nat)) + (tot ct1 x.Outer.Env.Names : Nat)) + (tot ct1 x.Outer.Env.Vals : Nat)), Env := { Names := mkL mkS ct1 x.Inner.Env.Names ((((k + (tot ct1 x.Outer.Todo : Nat)) + (tot ct1 x.Outer.Env.Names : Nat)) + (tot ct1 x.Outer.Env.Vals : Nat)) + (tot ct1 x.Inner.Todo : Nat)), Vals := mkL mkI ct1 x.Inner.Env.Vals (((((k + (tot ct1 x.Outer.Todo : Nat)) + (tot ct1 x.Outer.Env.Names : Nat)) + (tot ct1 x.Outer.Env.Vals : Nat)) + (tot ct1 x.Inner.Todo : Nat)) + (tot ct1 x.Inner.Env.Names : Nat)) }, Fault := x.Inner.Fault }, Monitor := x.Monitor, Entry := x.Entry, Ready := x.Ready, Over := x.Over }
def cwActor (x : DActor) : Nat := tot ct1 x.Outer.Todo + tot ct1 x.Outer.Env.Names + tot ct1 x.Outer.Env.Vals + tot ct1 x.Inner.Todo + tot ct1 x.Inner.Env.Names + tot ct1 x.Inner.Env.Vals
theorem set_cActor {xs : List DActor} {n : Nat} {x : DActor} : (xs.map cActor).set n [.tree 1 (x.Outer.Todo.map cI), .tree 1 (x.Outer.Env.Names.map cS), .tree 1 (x.Outer.Env.Vals.map cI), .int .i64 x.Outer.Fault, .tree 1 (x.Inner.Todo.map cI), .tree 1 (x.Inner.Env.Names.map cS), .tree 1 (x.Inner.Env.Vals.map cI), .int .i64 x.Inner.Fault, .int .i64 x.Monitor, .int .i64 x.Entry, .bool x.Ready, .bool x.Over] = (xs.set n x).map cActor := by rw [List.map_set]
theorem snoc_cActor {xs : List DActor} {x : DActor} : xs.map cActor ++ [[.tree 1 (x.Outer.Todo.map cI), .tree 1 (x.Outer.Env.Names.map cS), .tree 1 (x.Outer.Env.Vals.map cI), .int .i64 x.Outer.Fault, .tree 1 (x.Inner.Todo.map cI), .tree 1 (x.Inner.Env.Names.map cS), .tree 1 (x.Inner.Env.Vals.map cI), .int .i64 x.Inner.Fault, .int .i64 x.Monitor, .int .i64 x.Entry, .bool x.Ready, .bool x.Over]] = (xs ++ [x]).map cActor := by simp
theorem solid_cActor {xs : List DActor} : solid (xs.map cActor) = true := solid_map fun _ => rfl
structure DEvent where
  Process : Int
  Kind : Int
  Num : Int
abbrev cEvent (x : DEvent) : List AV := [.int .i64 x.Process, .int .i64 x.Kind, .int .i64 x.Num]
def gdEvent (x : DEvent) : Prop := i64 x.Process ∧ i64 x.Kind ∧ i64 x.Num
def mkEvent (x : DEvent) (k : Int) : DEvent := { Process := k, Kind := (k + 1), Num := ((k + 1) + 1) }
def ctEvent (x : DEvent) : Nat := 1 + 1 + 1
theorem ctle_Event (x : DEvent) : ctEvent x ≤ 3 := by
  unfold ctEvent
  omega
theorem tctle_Event (xs : List DEvent) : tot ctEvent xs ≤ 3 * xs.length := tot_ct_le0 ctle_Event xs
theorem flat_cEvent {xs : List DEvent} : flat (xs.map cEvent) = true := flat_map fun _ => rfl
theorem set_cEvent {xs : List DEvent} {n : Nat} {x : DEvent} : (xs.map cEvent).set n [.int .i64 x.Process, .int .i64 x.Kind, .int .i64 x.Num] = (xs.set n x).map cEvent := by rw [List.map_set]
theorem snoc_cEvent {xs : List DEvent} {x : DEvent} : xs.map cEvent ++ [[.int .i64 x.Process, .int .i64 x.Kind, .int .i64 x.Num]] = (xs ++ [x]).map cEvent := by simp
theorem solid_cEvent {xs : List DEvent} : solid (xs.map cEvent) = true := solid_map fun _ => rfl
structure DModel where
  Program : DProgram
  Actors : List (DActor)
  Gates : List (DGate)
  Vars : List (DEnv)
  Input : List (Int)
  Events : List (DEvent)
  Stopped : Bool
abbrev cModel (x : DModel) : List AV := [.tree 6 (x.Program.Nodes.map cNode), .tree 4 (x.Program.Monitors.map cMonitor), .tree 4 (x.Program.Processes.map cProcess), .tree 12 (x.Actors.map cActor), .tree 3 (x.Gates.map cGate), .tree 2 (x.Vars.map cEnv), .tree 1 (x.Input.map cI), .tree 3 (x.Events.map cEvent), .bool x.Stopped]
def wtModel (x : DModel) : Nat := (wtProgram x.Program) + (x.Actors.length + tot wtActor x.Actors) + (x.Gates.length + tot wtGate x.Gates) + (x.Vars.length + tot wtEnv x.Vars) + x.Input.length + x.Events.length
def gdModel (x : DModel) : Prop := gdProgram x.Program ∧ (x.Actors.length ≤ 140737488351232 ∧ ∀ y ∈ x.Actors, gdActor y) ∧ (x.Gates.length ≤ 140737488351232 ∧ ∀ y ∈ x.Gates, gdGate y) ∧ (x.Vars.length ≤ 140737488351232 ∧ ∀ y ∈ x.Vars, gdEnv y) ∧ (x.Input.length ≤ 140737488351232 ∧ ∀ y ∈ x.Input, i64 y) ∧ (x.Events.length ≤ 140737488351232 ∧ ∀ y ∈ x.Events, gdEvent y)
def mkModel (x : DModel) (k : Int) : DModel := { Program := { Nodes := mkL mkNode ctNode x.Program.Nodes k, Monitors := mkL mkMonitor ctMonitor x.Program.Monitors (k + (tot ctNode x.Program.Nodes : Nat)), Processes := mkL mkProcess ctProcess x.Program.Processes ((k + (tot ctNode x.Program.Nodes : Nat)) + (tot ctMonitor x.Program.Monitors : Nat)) }, Actors := mkL mkActor ctActor x.Actors (((k + (tot ctNode x.Program.Nodes : Nat)) + (tot ctMonitor x.Program.Monitors : Nat)) + (tot ctProcess x.Program.Processes : Nat)), Gates := mkL mkGate ctGate x.Gates ((((k + (tot ctNode x.Program.Nodes : Nat)) + (tot ctMonitor x.Program.Monitors : Nat)) + (tot ctProcess x.Program.Processes : Nat)) + (tot ctActor x.Actors : Nat)), Vars := mkL mkEnv ctEnv x.Vars (((((k + (tot ctNode x.Program.Nodes : Nat)) + (tot ctMonitor x.Program.Monitors : Nat)) + (tot ctProcess x.Program.Processes : Nat)) + (tot ctActor x.Actors : Nat)) + (tot ctGate x.Gates : Nat)), Input := mkL mkI ct1 x.Input ((((((k + (tot ctNode x.Program.Nodes : Nat)) + (tot ctMonitor x.Program.Monitors : Nat)) + (tot ctProcess x.Program.Processes : Nat)) + (tot ctActor x.Actors : Nat)) + (tot ctGate x.Gates : Nat)) + (tot ctEnv x.Vars : Nat)), Events := mkL mkEvent ctEvent x.Events (((((((k + (tot ctNode x.Program.Nodes : Nat)) + (tot ctMonitor x.Program.Monitors : Nat)) + (tot ctProcess x.Program.Processes : Nat)) + (tot ctActor x.Actors : Nat)) + (tot ctGate x.Gates : Nat)) + (tot ctEnv x.Vars : Nat)) + (tot ct1 x.Input : Nat)), Stopped := (decide (Int.tmod ((((((((k + (tot ctNode x.Program.Nodes : Nat)) + (tot ctMonitor x.Program.Monitors : Nat)) + (tot ctProcess x.Program.Processes : Nat)) + (tot ctActor x.Actors : Nat)) + (tot ctGate x.Gates : Nat)) + (tot ctEnv x.Vars : Nat)) + (tot ct1 x.Input : Nat)) + (tot ctEvent x.Events : Nat)) 3 = 0)) }
def ctModel (x : DModel) : Nat := tot ctNode x.Program.Nodes + tot ctMonitor x.Program.Monitors + tot ctProcess x.Program.Processes + tot ctActor x.Actors + tot ctGate x.Gates + tot ctEnv x.Vars + tot ct1 x.Input + tot ctEvent x.Events + 1
theorem ctle_Model (x : DModel) : ctModel x ≤ 6 * (1 + wtModel x) := by
  have h0 := tctle_Node x.Program.Nodes
  have h1 := tctle_Monitor x.Program.Monitors
  have h2 := tctle_Process x.Program.Processes
  have h3 := tctle_Actor x.Actors
  have h4 := tctle_Gate x.Gates
  have h5 := tctle_Env x.Vars
  have h6 := tot_ct1 x.Input
  have h7 := tctle_Event x.Events
  unfold ctModel
  simp only [wtModel, wtProgram] at *
  omega
theorem tctle_Model (xs : List DModel) : tot ctModel xs ≤ 6 * (xs.length + tot wtModel xs) := tot_ct_le ctle_Model xs
def mwModel (x : DModel) (k : Int) : DModel := { Program := { Nodes := mkL mkNode ctNode x.Program.Nodes k, Monitors := mkL mkMonitor ctMonitor x.Program.Monitors (k + (tot ctNode x.Program.Nodes : Nat)), Processes := mkL mkProcess ctProcess x.Program.Processes ((k + (tot ctNode x.Program.Nodes : Nat)) + (tot ctMonitor x.Program.Monitors : Nat)) }, Actors := mkL mkActor ctActor x.Actors (((k + (tot ctNode x.Program.Nodes : Nat)) + (tot ctMonitor x.Program.Monitors : Nat)) + (tot ctProcess x.Program.Processes : Nat)), Gates := mkL mkGate ctGate x.Gates ((((k + (tot ctNode x.Program.Nodes : Nat)) + (tot ctMonitor x.Program.Monitors : Nat)) + (tot ctProcess x.Program.Processes : Nat)) + (tot ctActor x.Actors : Nat)), Vars := mkL mkEnv ctEnv x.Vars (((((k + (tot ctNode x.Program.Nodes : Nat)) + (tot ctMonitor x.Program.Monitors : Nat)) + (tot ctProcess x.Program.Processes : Nat)) + (tot ctActor x.Actors : Nat)) + (tot ctGate x.Gates : Nat)), Input := mkL mkI ct1 x.Input ((((((k + (tot ctNode x.Program.Nodes : Nat)) + (tot ctMonitor x.Program.Monitors : Nat)) + (tot ctProcess x.Program.Processes : Nat)) + (tot ctActor x.Actors : Nat)) + (tot ctGate x.Gates : Nat)) + (tot ctEnv x.Vars : Nat)), Events := mkL mkEvent ctEvent x.Events (((((((k + (tot ctNode x.Program.Nodes : Nat)) + (tot ctMonitor x.Program.Monitors : Nat)) + (tot ctProcess x.Program.Processes : Nat)) + (tot ctActor x.Actors : Nat)) + (tot ctGate x.Gates : Nat)) + (tot ctEnv x.Vars : Nat)) + (tot ct1 x.Input : Nat)), Stopped := x.Stopped }
def cwModel (x : DModel) : Nat := tot ctNode x.Program.Nodes + tot ctMonitor x.Program.Monitors + tot ctProcess x.Program.Processes + tot ctActor x.Actors + tot ctGate x.Gates + tot ctEnv x.Vars + tot ct1 x.Input + tot ctEvent x.Events
theorem set_cModel {xs : List DModel} {n : Nat} {x : DModel} : (xs.map cModel).set n [.tree 6 (x.Program.Nodes.map cNode), .tree 4 (x.Program.Monitors.map cMonitor), .tree 4 (x.Program.Processes.map cProcess), .tree 12 (x.Actors.map cActor), .tree 3 (x.Gates.map cGate), .tree 2 (x.Vars.map cEnv), .tree 1 (x.Input.map cI), .tree 3 (x.Events.map cEvent), .bool x.Stopped] = (xs.set n x).map cModel := by rw [List.map_set]
theorem snoc_cModel {xs : List DModel} {x : DModel} : xs.map cModel ++ [[.tree 6 (x.Program.Nodes.map cNode), .tree 4 (x.Program.Monitors.map cMonitor), .tree 4 (x.Program.Processes.map cProcess), .tree 12 (x.Actors.map cActor), .tree 3 (x.Gates.map cGate), .tree 2 (x.Vars.map cEnv), .tree 1 (x.Input.map cI), .tree 3 (x.Events.map cEvent), .bool x.Stopped]] = (xs ++ [x]).map cModel := by simp
theorem solid_cModel {xs : List DModel} : solid (xs.map cModel) = true := solid_map fun _ => rfl
structure DCore where
  Regs : List (Int)
  Pc : Int
  Process : Int
abbrev cCore (x : DCore) : List AV := [.tree 1 (x.Regs.map cI), .int .i64 x.Pc, .int .i64 x.Process]
def wtCore (x : DCore) : Nat := x.Regs.length
def gdCore (x : DCore) : Prop := (x.Regs.length ≤ 140737488351232 ∧ ∀ y ∈ x.Regs, i64 y) ∧ i64 x.Pc ∧ i64 x.Process
def mkCore (x : DCore) (k : Int) : DCore := { Regs := mkL mkI ct1 x.Regs k, Pc := (k + (tot ct1 x.Regs : Nat)), Process := ((k + (tot ct1 x.Regs : Nat)) + 1) }
def ctCore (x : DCore) : Nat := tot ct1 x.Regs + 1 + 1
theorem ctle_Core (x : DCore) : ctCore x ≤ 2 * (1 + wtCore x) := by
  have h0 := tot_ct1 x.Regs
  unfold ctCore
  simp only [wtCore] at *
  omega
theorem tctle_Core (xs : List DCore) : tot ctCore xs ≤ 2 * (xs.length + tot wtCore xs) := tot_ct_le ctle_Core xs
def mwCore (x : DCore) (k : Int) : DCore := { Regs := mkL mkI ct1 x.Regs k, Pc := x.Pc, Process := x.Process }
def cwCore (x : DCore) : Nat := tot ct1 x.Regs
theorem set_cCore {xs : List DCore} {n : Nat} {x : DCore} : (xs.map cCore).set n [.tree 1 (x.Regs.map cI), .int .i64 x.Pc, .int .i64 x.Process] = (xs.set n x).map cCore := by rw [List.map_set]
theorem snoc_cCore {xs : List DCore} {x : DCore} : xs.map cCore ++ [[.tree 1 (x.Regs.map cI), .int .i64 x.Pc, .int .i64 x.Process]] = (xs ++ [x]).map cCore := by simp
theorem solid_cCore {xs : List DCore} : solid (xs.map cCore) = true := solid_map fun _ => rfl
structure DImage where
  Text : List (Int)
  Starts : List (Int)
  Size : Int
abbrev cImage (x : DImage) : List AV := [.tree 1 (x.Text.map cI), .tree 1 (x.Starts.map cI), .int .i64 x.Size]
def wtImage (x : DImage) : Nat := x.Text.length + x.Starts.length
def gdImage (x : DImage) : Prop := (x.Text.length ≤ 140737488351232 ∧ ∀ y ∈ x.Text, i64 y) ∧ (x.Starts.length ≤ 140737488351232 ∧ ∀ y ∈ x.Starts, i64 y) ∧ i64 x.Size
def mkImage (x : DImage) (k : Int) : DImage := { Text := mkL mkI ct1 x.Text k, Starts := mkL mkI ct1 x.Starts (k + (tot ct1 x.Text : Nat)), Size := ((k + (tot ct1 x.Text : Nat)) + (tot ct1 x.Starts : Nat)) }
def ctImage (x : DImage) : Nat := tot ct1 x.Text + tot ct1 x.Starts + 1
theorem ctle_Image (x : DImage) : ctImage x ≤ 1 * (1 + wtImage x) := by
  have h0 := tot_ct1 x.Text
  have h1 := tot_ct1 x.Starts
  unfold ctImage
  simp only [wtImage] at *
  omega
theorem tctle_Image (xs : List DImage) : tot ctImage xs ≤ 1 * (xs.length + tot wtImage xs) := tot_ct_le ctle_Image xs
def mwImage (x : DImage) (k : Int) : DImage := { Text := mkL mkI ct1 x.Text k, Starts := mkL mkI ct1 x.Starts (k + (tot ct1 x.Text : Nat)), Size := x.Size }
def cwImage (x : DImage) : Nat := tot ct1 x.Text + tot ct1 x.Starts
theorem set_cImage {xs : List DImage} {n : Nat} {x : DImage} : (xs.map cImage).set n [.tree 1 (x.Text.map cI), .tree 1 (x.Starts.map cI), .int .i64 x.Size] = (xs.set n x).map cImage := by rw [List.map_set]
theorem snoc_cImage {xs : List DImage} {x : DImage} : xs.map cImage ++ [[.tree 1 (x.Text.map cI), .tree 1 (x.Starts.map cI), .int .i64 x.Size]] = (xs ++ [x]).map cImage := by simp
theorem solid_cImage {xs : List DImage} : solid (xs.map cImage) = true := solid_map fun _ => rfl
structure DKernel where
  Gates : List (DGate)
  Ready : List (Int)
  Saved : List (DCore)
  Over : List (Bool)
abbrev cKernel (x : DKernel) : List AV := [.tree 3 (x.Gates.map cGate), .tree 1 (x.Ready.map cI), .tree 3 (x.Saved.map cCore), .tree 1 (x.Over.map cB)]
def wtKernel (x : DKernel) : Nat := (x.Gates.length + tot wtGate x.Gates) + x.Ready.length + (x.Saved.length + tot wtCore x.Saved) + x.Over.length
def gdKernel (x : DKernel) : Prop := (x.Gates.length ≤ 140737488351232 ∧ ∀ y ∈ x.Gates, gdGate y) ∧ (x.Ready.length ≤ 140737488351232 ∧ ∀ y ∈ x.Ready, i64 y) ∧ (x.Saved.length ≤ 140737488351232 ∧ ∀ y ∈ x.Saved, gdCore y) ∧ (x.Over.length ≤ 140737488351232)
def mkKernel (x : DKernel) (k : Int) : DKernel := { Gates := mkL mkGate ctGate x.Gates k, Ready := mkL mkI ct1 x.Ready (k + (tot ctGate x.Gates : Nat)), Saved := mkL mkCore ctCore x.Saved ((k + (tot ctGate x.Gates : Nat)) + (tot ct1 x.Ready : Nat)), Over := mkL mkB ct1 x.Over (((k + (tot ctGate x.Gates : Nat)) + (tot ct1 x.Ready : Nat)) + (tot ctCore x.Saved : Nat)) }
def ctKernel (x : DKernel) : Nat := tot ctGate x.Gates + tot ct1 x.Ready + tot ctCore x.Saved + tot ct1 x.Over
theorem ctle_Kernel (x : DKernel) : ctKernel x ≤ 2 * (1 + wtKernel x) := by
  have h0 := tctle_Gate x.Gates
  have h1 := tot_ct1 x.Ready
  have h2 := tctle_Core x.Saved
  have h3 := tot_ct1 x.Over
  unfold ctKernel
  simp only [wtKernel] at *
  omega
theorem tctle_Kernel (xs : List DKernel) : tot ctKernel xs ≤ 2 * (xs.length + tot wtKernel xs) := tot_ct_le ctle_Kernel xs
def mwKernel (x : DKernel) (k : Int) : DKernel := { Gates := mkL mkGate ctGate x.Gates k, Ready := mkL mkI ct1 x.Ready (k + (tot ctGate x.Gates : Nat)), Saved := mkL mkCore ctCore x.Saved ((k + (tot ctGate x.Gates : Nat)) + (tot ct1 x.Ready : Nat)), Over := mkL mkB ct1 x.Over (((k + (tot ctGate x.Gates : Nat)) + (tot ct1 x.Ready : Nat)) + (tot ctCore x.Saved : Nat)) }
def cwKernel (x : DKernel) : Nat := tot ctGate x.Gates + tot ct1 x.Ready + tot ctCore x.Saved + tot ct1 x.Over
theorem set_cKernel {xs : List DKernel} {n : Nat} {x : DKernel} : (xs.map cKernel).set n [.tree 3 (x.Gates.map cGate), .tree 1 (x.Ready.map cI), .tree 3 (x.Saved.map cCore), .tree 1 (x.Over.map cB)] = (xs.set n x).map cKernel := by rw [List.map_set]
theorem snoc_cKernel {xs : List DKernel} {x : DKernel} : xs.map cKernel ++ [[.tree 3 (x.Gates.map cGate), .tree 1 (x.Ready.map cI), .tree 3 (x.Saved.map cCore), .tree 1 (x.Over.map cB)]] = (xs ++ [x]).map cKernel := by simp
theorem solid_cKernel {xs : List DKernel} : solid (xs.map cKernel) = true := solid_map fun _ => rfl
structure DMachine where
  Image : DImage
  Mem : List (Int)
  Cores : List (DCore)
  Kernel : DKernel
  Input : List (Int)
  Events : List (DEvent)
  Stopped : Bool
abbrev cMachine (x : DMachine) : List AV := [.tree 1 (x.Image.Text.map cI), .tree 1 (x.Image.Starts.map cI), .int .i64 x.Image.Size, .tree 1 (x.Mem.map cI), .tree 3 (x.Cores.map cCore), .tree 3 (x.Kernel.Gates.map cGate), .tree 1 (x.Kernel.Ready.map cI), .tree 3 (x.Kernel.Saved.map cCore), .tree 1 (x.Kernel.Over.map cB), .tree 1 (x.Input.map cI), .tree 3 (x.Events.map cEvent), .bool x.Stopped]
def wtMachine (x : DMachine) : Nat := (wtImage x.Image) + x.Mem.length + (x.Cores.length + tot wtCore x.Cores) + (wtKernel x.Kernel) + x.Input.length + x.Events.length
def gdMachine (x : DMachine) : Prop := gdImage x.Image ∧ (x.Mem.length ≤ 140737488351232 ∧ ∀ y ∈ x.Mem, i64 y) ∧ (x.Cores.length ≤ 140737488351232 ∧ ∀ y ∈ x.Cores, gdCore y) ∧ gdKernel x.Kernel ∧ (x.Input.length ≤ 140737488351232 ∧ ∀ y ∈ x.Input, i64 y) ∧ (x.Events.length ≤ 140737488351232 ∧ ∀ y ∈ x.Events, gdEvent y)
def mkMachine (x : DMachine) (k : Int) : DMachine := { Image := { Text := mkL mkI ct1 x.Image.Text k, Starts := mkL mkI ct1 x.Image.Starts (k + (tot ct1 x.Image.Text : Nat)), Size := ((k + (tot ct1 x.Image.Text : Nat)) + (tot ct1 x.Image.Starts : Nat)) }, Mem := mkL mkI ct1 x.Mem (((k + (tot ct1 x.Image.Text : Nat)) + (tot ct1 x.Image.Starts : Nat)) + 1), Cores := mkL mkCore ctCore x.Cores ((((k + (tot ct1 x.Image.Text : Nat)) + (tot ct1 x.Image.Starts : Nat)) + 1) + (tot ct1 x.Mem : Nat)), Kernel := { Gates := mkL mkGate ctGate x.Kernel.Gates (((((k + (tot ct1 x.Image.Text : Nat)) + (tot ct1 x.Image.Starts : Nat)) + 1) + (tot ct1 x.Mem : Nat)) + (tot ctCore x.Cores : Nat)), Ready := mkL mkI ct1 x.Kernel.Ready ((((((k + (tot ct1 x.Image.Text : Nat)) + (tot ct1 x.Image.Starts : Nat)) + 1) + (tot ct1 x.Mem : Nat)) + (tot ctCore x.Cores : Nat)) + (tot ctGate x.Kernel.Gates : Nat)), Saved := mkL mkCore ctCore x.Kernel.Saved (((((((k + (tot ct1 x.Image.Text : Nat)) + (tot ct1 x.Image.Starts : Nat)) + 1) + (tot ct1 x.Mem : Nat)) + (tot ctCore x.Cores : Nat)) + (tot ctGate x.Kernel.Gates : Nat)) + (tot ct1 x.Kernel.Ready : Nat)), Over := mkL mkB ct1 x.Kernel.Over ((((((((k + (tot ct1 x.Image.Text : Nat)) + (tot ct1 x.Image.Starts : Nat)) + 1) + (tot ct1 x.Mem : Nat)) + (tot ctCore x.Cores : Nat)) + (tot ctGate x.Kernel.Gates : Nat)) + (tot ct1 x.Kernel.Ready : Nat)) + (tot ctCore x.Kernel.Saved : Nat)) }, Input := mkL mkI ct1 x.Input (((((((((k + (tot ct1 x.Image.Text : Nat)) + (tot ct1 x.Image.Starts : Nat)) + 1) + (tot ct1 x.Mem : Nat)) + (tot ctCore x.Cores : Nat)) + (tot ctGate x.Kernel.Gates : Nat)) + (tot ct1 x.Kernel.Ready : Nat)) + (tot ctCore x.Kernel.Saved : Nat)) + (tot ct1 x.Kernel.Over : Nat)), Events := mkL mkEvent ctEvent x.Events ((((((((((k + (tot ct1 x.Image.Text : Nat)) + (tot ct1 x.Image.Starts : Nat)) + 1) + (tot ct1 x.Mem : Nat)) + (tot ctCore x.Cores : Nat)) + (tot ctGate x.Kernel.Gates : Nat)) + (tot ct1 x.Kernel.Ready : Nat)) + (tot ctCore x.Kernel.Saved : Nat)) + (tot ct1 x.Kernel.Over : Nat)) + (tot ct1 x.Input : Nat)), Stopped := (decide (Int.tmod (((((((((((k + (tot ct1 x.Image.Text : Nat)) + (tot ct1 x.Image.Starts : Nat)) + 1) + (tot ct1 x.Mem : Nat)) + (tot ctCore x.Cores : Nat)) + (tot ctGate x.Kernel.Gates : Nat)) + (tot ct1 x.Kernel.Ready : Nat)) + (tot ctCore x.Kernel.Saved : Nat)) + (tot ct1 x.Kernel.Over : Nat)) + (tot ct1 x.Input : Nat)) + (tot ctEvent x.Events : Nat)) 3 = 0)) }
def ctMachine (x : DMachine) : Nat := tot ct1 x.Image.Text + tot ct1 x.Image.Starts + 1 + tot ct1 x.Mem + tot ctCore x.Cores + tot ctGate x.Kernel.Gates + tot ct1 x.Kernel.Ready + tot ctCore x.Kernel.Saved + tot ct1 x.Kernel.Over + tot ct1 x.Input + tot ctEvent x.Events + 1
theorem ctle_Machine (x : DMachine) : ctMachine x ≤ 3 * (1 + wtMachine x) := by
  have h0 := tot_ct1 x.Image.Text
  have h1 := tot_ct1 x.Image.Starts
  have h2 := tot_ct1 x.Mem
  have h3 := tctle_Core x.Cores
  have h4 := tctle_Gate x.Kernel.Gates
  have h5 := tot_ct1 x.Kernel.Ready
  have h6 := tctle_Core x.Kernel.Saved
  have h7 := tot_ct1 x.Kernel.Over
  have h8 := tot_ct1 x.Input
  have h9 := tctle_Event x.Events
  unfold ctMachine
  simp only [wtMachine, wtImage, wtKernel] at *
  omega
theorem tctle_Machine (xs : List DMachine) : tot ctMachine xs ≤ 3 * (xs.length + tot wtMachine xs) := tot_ct_le ctle_Machine xs
def mwMachine (x : DMachine) (k : Int) : DMachine := { Image := { Text := mkL mkI ct1 x.Image.Text k, Starts := mkL mkI ct1 x.Image.Starts (k + (tot ct1 x.Image.Text : Nat)), Size := x.Image.Size }, Mem := mkL mkI ct1 x.Mem ((k + (tot ct1 x.Image.Text : Nat)) + (tot ct1 x.Image.Starts : Nat)), Cores := mkL mkCore ctCore x.Cores (((k + (tot ct1 x.Image.Text : Nat)) + (tot ct1 x.Image.Starts : Nat)) + (tot ct1 x.Mem : Nat)), Kernel := { Gates := mkL mkGate ctGate x.Kernel.Gates ((((k + (tot ct1 x.Image.Text : Nat)) + (tot ct1 x.Image.Starts : Nat)) + (tot ct1 x.Mem : Nat)) + (tot ctCore x.Cores : Nat)), Ready := mkL mkI ct1 x.Kernel.Ready (((((k + (tot ct1 x.Image.Text : Nat)) + (tot ct1 x.Image.Starts : Nat)) + (tot ct1 x.Mem : Nat)) + (tot ctCore x.Cores : Nat)) + (tot ctGate x.Kernel.Gates : Nat)), Saved := mkL mkCore ctCore x.Kernel.Saved ((((((k + (tot ct1 x.Image.Text : Nat)) + (tot ct1 x.Image.Starts : Nat)) + (tot ct1 x.Mem : Nat)) + (tot ctCore x.Cores : Nat)) + (tot ctGate x.Kernel.Gates : Nat)) + (tot ct1 x.Kernel.Ready : Nat)), Over := mkL mkB ct1 x.Kernel.Over (((((((k + (tot ct1 x.Image.Text : Nat)) + (tot ct1 x.Image.Starts : Nat)) + (tot ct1 x.Mem : Nat)) + (tot ctCore x.Cores : Nat)) + (tot ctGate x.Kernel.Gates : Nat)) + (tot ct1 x.Kernel.Ready : Nat)) + (tot ctCore x.Kernel.Saved : Nat)) }, Input := mkL mkI ct1 x.Input ((((((((k + (tot ct1 x.Image.Text : Nat)) + (tot ct1 x.Image.Starts : Nat)) + (tot ct1 x.Mem : Nat)) + (tot ctCore x.Cores : Nat)) + (tot ctGate x.Kernel.Gates : Nat)) + (tot ct1 x.Kernel.Ready : Nat)) + (tot ctCore x.Kernel.Saved : Nat)) + (tot ct1 x.Kernel.Over : Nat)), Events := mkL mkEvent ctEvent x.Events (((((((((k + (tot ct1 x.Image.Text : Nat)) + (tot ct1 x.Image.Starts : Nat)) + (tot ct1 x.Mem : Nat)) + (tot ctCore x.Cores : Nat)) + (tot ctGate x.Kernel.Gates : Nat)) + (tot ct1 x.Kernel.Ready : Nat)) + (tot ctCore x.Kernel.Saved : Nat)) + (tot ct1 x.Kernel.Over : Nat)) + (tot ct1 x.Input : Nat)), Stopped := x.Stopped }
def cwMachine (x : DMachine) : Nat := tot ct1 x.Image.Text + tot ct1 x.Image.Starts + tot ct1 x.Mem + tot ctCore x.Cores + tot ctGate x.Kernel.Gates + tot ct1 x.Kernel.Ready + tot ctCore x.Kernel.Saved + tot ct1 x.Kernel.Over + tot ct1 x.Input + tot ctEvent x.Events
theorem set_cMachine {xs : List DMachine} {n : Nat} {x : DMachine} : (xs.map cMachine).set n [.tree 1 (x.Image.Text.map cI), .tree 1 (x.Image.Starts.map cI), .int .i64 x.Image.Size, .tree 1 (x.Mem.map cI), .tree 3 (x.Cores.map cCore), .tree 3 (x.Kernel.Gates.map cGate), .tree 1 (x.Kernel.Ready.map cI), .tree 3 (x.Kernel.Saved.map cCore), .tree 1 (x.Kernel.Over.map cB), .tree 1 (x.Input.map cI), .tree 3 (x.Events.map cEvent), .bool x.Stopped] = (xs.set n x).map cMachine := by rw [List.map_set]
theorem snoc_cMachine {xs : List DMachine} {x : DMachine} : xs.map cMachine ++ [[.tree 1 (x.Image.Text.map cI), .tree 1 (x.Image.Starts.map cI), .int .i64 x.Image.Size, .tree 1 (x.Mem.map cI), .tree 3 (x.Cores.map cCore), .tree 3 (x.Kernel.Gates.map cGate), .tree 1 (x.Kernel.Ready.map cI), .tree 3 (x.Kernel.Saved.map cCore), .tree 1 (x.Kernel.Over.map cB), .tree 1 (x.Input.map cI), .tree 3 (x.Events.map cEvent), .bool x.Stopped]] = (xs ++ [x]).map cMachine := by simp
theorem solid_cMachine {xs : List DMachine} : solid (xs.map cMachine) = true := solid_map fun _ => rfl
def FT := (And.intro (And.intro (And.intro (And.intro (And.intro @solid_cNode @solid_cEntry) (And.intro @solid_cMonitor (And.intro @solid_cProcess @solid_cProgram))) (And.intro (And.intro @solid_cEnv (And.intro @solid_cThread @solid_cGate)) (And.intro @solid_cActor (And.intro @solid_cEvent @solid_cModel)))) (And.intro (And.intro (And.intro @solid_cCore (And.intro @solid_cImage @solid_cKernel)) (And.intro @solid_cMachine (And.intro @flat_cEntry @flat_cEvent))) (And.intro (And.intro @snoc_cNode (And.intro @snoc_cEntry @snoc_cMonitor)) (And.intro @snoc_cProcess (And.intro @snoc_cProgram @snoc_cEnv))))) (And.intro (And.intro (And.intro (And.intro @snoc_cThread (And.intro @snoc_cGate @snoc_cActor)) (And.intro @snoc_cEvent (And.intro @snoc_cModel @snoc_cCore))) (And.intro (And.intro @snoc_cImage (And.intro @snoc_cKernel @snoc_cMachine)) (And.intro @set_cNode (And.intro @set_cEntry @set_cMonitor)))) (And.intro (And.intro (And.intro @set_cProcess (And.intro @set_cProgram @set_cEnv)) (And.intro @set_cThread (And.intro @set_cGate @set_cActor))) (And.intro (And.intro @set_cEvent (And.intro @set_cModel @set_cCore)) (And.intro @set_cImage (And.intro @set_cKernel @set_cMachine))))))
theorem sem_laws_szIntS (xs : List Int) (h : xs.length ≤ 140737488351232) (n : Int) (h1 : -1 ≤ n) (h2 : n ≤ 4611686018427387904) : S_laws_szIntS.sem [.tree 1 (xs.map cI), .int .i64 n] = some (.int .i64 (lft n xs.length), []) := by
  rw [sg_laws_szIntS, sem_go]
  simp +contextual (maxSteps := 10000000) (disch := omega) only [F_laws_szIntS, params, EG, EL, ↓reduceIte, Nat.reduceEqDiff, Nat.reduceAdd, Nat.reduceSub, Nat.reduceMul, Nat.reduceLeDiff, Nat.reduceLT, Int.reduceLT, Int.reduceLE, Int.reduceEq, Int.reduceToNat, reduceCtorEq, FB, FT, cx_laws_szIntS, wrapI]
  unfold lft
  split <;> rfl
theorem sem_laws_szImage (x : DImage) (g : gdImage x) (n : Int) (h1 : -1 ≤ n) (h2 : n ≤ 4611686018427387904) : S_laws_szImage.sem [.agg (cImage x), .int .i64 n] = some (.int .i64 (lft n (wtImage x)), []) := by
  obtain ⟨⟨g0, g0e⟩, ⟨g1, g1e⟩, g2⟩ := (show (x.Text.length ≤ 140737488351232 ∧ ∀ y ∈ x.Text, i64 y) ∧ (x.Starts.length ≤ 140737488351232 ∧ ∀ y ∈ x.Starts, i64 y) ∧ i64 x.Size from g)
  skip
  unfold wtImage
  have kW := lft_or n (x.Text.length + x.Starts.length)
  rw [sg_laws_szImage, sem_go]
  rcases lft_or (n) (x.Text.length) with ⟨e0, f0⟩ | ⟨e0, f0⟩
  · simp (maxSteps := 10000000) (disch := first | assumption | omega) only [F_laws_szImage, params, EG, EL, ↓reduceIte, Nat.reduceEqDiff, Nat.reduceAdd, Nat.reduceSub, Nat.reduceMul, Nat.reduceLeDiff, Nat.reduceLT, Int.reduceLT, Int.reduceLE, Int.reduceEq, Int.reduceToNat, reduceCtorEq, FB, FT, cx_laws_szImage, cl_laws_szIntS, sem_laws_szIntS, wrapI, neg1_lt, e0]
    first | done | (simp only [Option.some.injEq, Prod.mk.injEq, AV.int.injEq, AV.bool.injEq, AV.str.injEq, true_and, and_true]; omega)
  · have c0 : ¬ n - ((x.Text.length : Nat) : Int) < 0 := by omega
    rcases lft_or (n - ((x.Text.length : Nat) : Int)) (x.Starts.length) with ⟨e1, f1⟩ | ⟨e1, f1⟩
    · simp (maxSteps := 10000000) (disch := first | assumption | omega) only [F_laws_szImage, params, EG, EL, ↓reduceIte, Nat.reduceEqDiff, Nat.reduceAdd, Nat.reduceSub, Nat.reduceMul, Nat.reduceLeDiff, Nat.reduceLT, Int.reduceLT, Int.reduceLE, Int.reduceEq, Int.reduceToNat, reduceCtorEq, FB, FT, cx_laws_szImage, cl_laws_szIntS, sem_laws_szIntS, wrapI, neg1_lt, e0, c0, e1]
      first | done | (simp only [Option.some.injEq, Prod.mk.injEq, AV.int.injEq, AV.bool.injEq, AV.str.injEq, true_and, and_true]; omega)
    · have c1 : ¬ n - ((x.Text.length : Nat) : Int) - ((x.Starts.length : Nat) : Int) < 0 := by omega
      simp (maxSteps := 10000000) (disch := first | assumption | omega) only [F_laws_szImage, params, EG, EL, ↓reduceIte, Nat.reduceEqDiff, Nat.reduceAdd, Nat.reduceSub, Nat.reduceMul, Nat.reduceLeDiff, Nat.reduceLT, Int.reduceLT, Int.reduceLE, Int.reduceEq, Int.reduceToNat, reduceCtorEq, FB, FT, cx_laws_szImage, cl_laws_szIntS, sem_laws_szIntS, wrapI, neg1_lt, e0, c0, e1, c1]
      first | done | rfl | (simp only [Option.some.injEq, Prod.mk.injEq, AV.int.injEq, AV.bool.injEq, AV.str.injEq, true_and, and_true]; omega)
theorem sem_laws_szCore (x : DCore) (g : gdCore x) (n : Int) (h1 : -1 ≤ n) (h2 : n ≤ 4611686018427387904) : S_laws_szCore.sem [.agg (cCore x), .int .i64 n] = some (.int .i64 (lft n (wtCore x)), []) := by
  obtain ⟨⟨g0, g0e⟩, g1, g2⟩ := (show (x.Regs.length ≤ 140737488351232 ∧ ∀ y ∈ x.Regs, i64 y) ∧ i64 x.Pc ∧ i64 x.Process from g)
  skip
  unfold wtCore
  have kW := lft_or n (x.Regs.length)
  rw [sg_laws_szCore, sem_go]
  rcases lft_or (n) (x.Regs.length) with ⟨e0, f0⟩ | ⟨e0, f0⟩
  · simp (maxSteps := 10000000) (disch := first | assumption | omega) only [F_laws_szCore, params, EG, EL, ↓reduceIte, Nat.reduceEqDiff, Nat.reduceAdd, Nat.reduceSub, Nat.reduceMul, Nat.reduceLeDiff, Nat.reduceLT, Int.reduceLT, Int.reduceLE, Int.reduceEq, Int.reduceToNat, reduceCtorEq, FB, FT, cx_laws_szCore, cl_laws_szIntS, sem_laws_szIntS, wrapI, neg1_lt, e0]
    first | done | (simp only [Option.some.injEq, Prod.mk.injEq, AV.int.injEq, AV.bool.injEq, AV.str.injEq, true_and, and_true]; omega)
  · have c0 : ¬ n - ((x.Regs.length : Nat) : Int) < 0 := by omega
    simp (maxSteps := 10000000) (disch := first | assumption | omega) only [F_laws_szCore, params, EG, EL, ↓reduceIte, Nat.reduceEqDiff, Nat.reduceAdd, Nat.reduceSub, Nat.reduceMul, Nat.reduceLeDiff, Nat.reduceLT, Int.reduceLT, Int.reduceLE, Int.reduceEq, Int.reduceToNat, reduceCtorEq, FB, FT, cx_laws_szCore, cl_laws_szIntS, sem_laws_szIntS, wrapI, neg1_lt, e0, c0]
    first | done | rfl | (simp only [Option.some.injEq, Prod.mk.injEq, AV.int.injEq, AV.bool.injEq, AV.str.injEq, true_and, and_true]; omega)
theorem loop_laws_szCoreS (xs : List DCore) (g : ∀ y ∈ xs, gdCore y) (hl : xs.length ≤ 140737488351232) (n : Int) (h1 : 0 ≤ n) (h2 : n ≤ 4611686018427387904) :
    loopV X_laws_szCoreS 0 [0, 1, 5] [(1, [1]), (0, [4])] B0_laws_szCoreS ⟨[(0, .tree 3 (xs.map cCore)), (1, .int .i64 n), (5, .int .i64 0)], []⟩ = szR 4 n (tot wtCore xs) := by
  refine loop_list xs (fun _ m => 0 ≤ m ∧ m ≤ 4611686018427387904) (fun i (m : Int) => ⟨[(0, .tree 3 (xs.map cCore)), (1, .int .i64 m), (5, .int .i64 ((i : Nat) : Int))], []⟩) (fun rest m => szR 4 m (tot wtCore rest)) ?_ ?_ n ⟨h1, h2⟩
  · rintro m ⟨m1, m2⟩
    rw [loopV_by B0_laws_szCoreS.eq_1]
    simp only [EG, EL, ↓reduceIte, Nat.reduceEqDiff, Nat.reduceAdd, Nat.reduceSub, Nat.reduceMul, Nat.reduceLeDiff, Nat.reduceLT, Int.reduceLT, Int.reduceLE, Int.reduceEq, Int.reduceToNat, reduceCtorEq, int_lt_irrefl]
    exact szR_zero m1
  · rintro i h x rest m rfl rfl ⟨m1, m2⟩ ih
    have hi : (i : Int) < (xs.length : Int) := by omega
    have hx := g _ (List.getElem_mem h)
    skip
    rw [loopV_by B0_laws_szCoreS.eq_1]
    by_cases hc : m - ((wtCore xs[i] : Nat) : Int) < 0
    · have hq : lft m (wtCore xs[i]) = -1 := if_pos hc
      simp (maxSteps := 10000000) (disch := first | assumption | omega) only [EG, EL, ↓reduceIte, Nat.reduceEqDiff, Nat.reduceAdd, Nat.reduceSub, Nat.reduceMul, Nat.reduceLeDiff, Nat.reduceLT, Int.reduceLT, Int.reduceLE, Int.reduceEq, Int.reduceToNat, reduceCtorEq, FB, FT, hi, wrap_succ, getRow _ _ h, cx_laws_szCoreS, cl_laws_szCore, sem_laws_szCore, hc, hq, neg1_lt]
      exact szR_neg hc
    · have hq : lft m (wtCore xs[i]) = m - ((wtCore xs[i] : Nat) : Int) := if_neg hc
      simp (maxSteps := 10000000) (disch := first | assumption | omega) only [EG, EL, ↓reduceIte, Nat.reduceEqDiff, Nat.reduceAdd, Nat.reduceSub, Nat.reduceMul, Nat.reduceLeDiff, Nat.reduceLT, Int.reduceLT, Int.reduceLE, Int.reduceEq, Int.reduceToNat, reduceCtorEq, FB, FT, hi, wrap_succ, getRow _ _ h, cx_laws_szCoreS, cl_laws_szCore, sem_laws_szCore, hc, hq, neg1_lt]
      skip
      rw [ih _ ⟨by omega, by omega⟩]
      exact szR_pos
theorem sem_laws_szCoreS (xs : List DCore) (h : xs.length ≤ 140737488351232) (g : ∀ y ∈ xs, gdCore y) (n : Int) (h1 : -1 ≤ n) (h2 : n ≤ 4611686018427387904) : S_laws_szCoreS.sem [.tree 3 (xs.map cCore), .int .i64 n] = some (.int .i64 (lft n (xs.length + tot wtCore xs)), []) := by
  rw [sg_laws_szCoreS, sem_go]
  by_cases hc : n - (xs.length : Int) < 0
  · simp (maxSteps := 10000000) (disch := omega) only [F_laws_szCoreS, params, EG, EL, ↓reduceIte, Nat.reduceEqDiff, Nat.reduceAdd, Nat.reduceSub, Nat.reduceMul, Nat.reduceLeDiff, Nat.reduceLT, Int.reduceLT, Int.reduceLE, Int.reduceEq, Int.reduceToNat, reduceCtorEq, FB, FT, cx_laws_szCoreS, cl_laws_szCore, sem_laws_szCore, wrapI, hc, lft]
    rw [if_pos (by omega)]
  · simp (maxSteps := 10000000) (disch := first | assumption | omega) only [F_laws_szCoreS, params, EG, EL, ↓reduceIte, Nat.reduceEqDiff, Nat.reduceAdd, Nat.reduceSub, Nat.reduceMul, Nat.reduceLeDiff, Nat.reduceLT, Int.reduceLT, Int.reduceLE, Int.reduceEq, Int.reduceToNat, reduceCtorEq, FB, FT, cx_laws_szCoreS, cl_laws_szCore, sem_laws_szCore, wrapI, hc, loop_laws_szCoreS, goE_szR]
    unfold lft
    (repeat' split) <;> first | rfl | omega | (simp only [Option.some.injEq, Prod.mk.injEq, AV.int.injEq, AV.bool.injEq, AV.str.injEq, true_and, and_true]; omega)
theorem sem_laws_szGate (x : DGate) (g : gdGate x) (n : Int) (h1 : -1 ≤ n) (h2 : n ≤ 4611686018427387904) : S_laws_szGate.sem [.agg (cGate x), .int .i64 n] = some (.int .i64 (lft n (wtGate x)), []) := by
  obtain ⟨g0, ⟨g1, g1e⟩, ⟨g2, g2e⟩⟩ := (show i64 x.Owner ∧ (x.Waits.length ≤ 140737488351232 ∧ ∀ y ∈ x.Waits, i64 y) ∧ (x.Queues.length ≤ 140737488351232 ∧ ∀ y ∈ x.Queues, i64 y) from g)
  skip
  unfold wtGate
  have kW := lft_or n (x.Waits.length + x.Queues.length)
  rw [sg_laws_szGate, sem_go]
  rcases lft_or (n) (x.Waits.length) with ⟨e0, f0⟩ | ⟨e0, f0⟩
  · simp (maxSteps := 10000000) (disch := first | assumption | omega) only [F_laws_szGate, params, EG, EL, ↓reduceIte, Nat.reduceEqDiff, Nat.reduceAdd, Nat.reduceSub, Nat.reduceMul, Nat.reduceLeDiff, Nat.reduceLT, Int.reduceLT, Int.reduceLE, Int.reduceEq, Int.reduceToNat, reduceCtorEq, FB, FT, cx_laws_szGate, cl_laws_szIntS, sem_laws_szIntS, wrapI, neg1_lt, e0]
    first | done | (simp only [Option.some.injEq, Prod.mk.injEq, AV.int.injEq, AV.bool.injEq, AV.str.injEq, true_and, and_true]; omega)
  · have c0 : ¬ n - ((x.Waits.length : Nat) : Int) < 0 := by omega
    rcases lft_or (n - ((x.Waits.length : Nat) : Int)) (x.Queues.length) with ⟨e1, f1⟩ | ⟨e1, f1⟩
    · simp (maxSteps := 10000000) (disch := first | assumption | omega) only [F_laws_szGate, params, EG, EL, ↓reduceIte, Nat.reduceEqDiff, Nat.reduceAdd, Nat.reduceSub, Nat.reduceMul, Nat.reduceLeDiff, Nat.reduceLT, Int.reduceLT, Int.reduceLE, Int.reduceEq, Int.reduceToNat, reduceCtorEq, FB, FT, cx_laws_szGate, cl_laws_szIntS, sem_laws_szIntS, wrapI, neg1_lt, e0, c0, e1]
      first | done | (simp only [Option.some.injEq, Prod.mk.injEq, AV.int.injEq, AV.bool.injEq, AV.str.injEq, true_and, and_true]; omega)
    · have c1 : ¬ n - ((x.Waits.length : Nat) : Int) - ((x.Queues.length : Nat) : Int) < 0 := by omega
      simp (maxSteps := 10000000) (disch := first | assumption | omega) only [F_laws_szGate, params, EG, EL, ↓reduceIte, Nat.reduceEqDiff, Nat.reduceAdd, Nat.reduceSub, Nat.reduceMul, Nat.reduceLeDiff, Nat.reduceLT, Int.reduceLT, Int.reduceLE, Int.reduceEq, Int.reduceToNat, reduceCtorEq, FB, FT, cx_laws_szGate, cl_laws_szIntS, sem_laws_szIntS, wrapI, neg1_lt, e0, c0, e1, c1]
      first | done | rfl | (simp only [Option.some.injEq, Prod.mk.injEq, AV.int.injEq, AV.bool.injEq, AV.str.injEq, true_and, and_true]; omega)
theorem loop_laws_szGateS (xs : List DGate) (g : ∀ y ∈ xs, gdGate y) (hl : xs.length ≤ 140737488351232) (n : Int) (h1 : 0 ≤ n) (h2 : n ≤ 4611686018427387904) :
    loopV X_laws_szGateS 0 [0, 1, 5] [(1, [1]), (0, [4])] B0_laws_szGateS ⟨[(0, .tree 3 (xs.map cGate)), (1, .int .i64 n), (5, .int .i64 0)], []⟩ = szR 4 n (tot wtGate xs) := by
  refine loop_list xs (fun _ m => 0 ≤ m ∧ m ≤ 4611686018427387904) (fun i (m : Int) => ⟨[(0, .tree 3 (xs.map cGate)), (1, .int .i64 m), (5, .int .i64 ((i : Nat) : Int))], []⟩) (fun rest m => szR 4 m (tot wtGate rest)) ?_ ?_ n ⟨h1, h2⟩
  · rintro m ⟨m1, m2⟩
    rw [loopV_by B0_laws_szGateS.eq_1]
    simp only [EG, EL, ↓reduceIte, Nat.reduceEqDiff, Nat.reduceAdd, Nat.reduceSub, Nat.reduceMul, Nat.reduceLeDiff, Nat.reduceLT, Int.reduceLT, Int.reduceLE, Int.reduceEq, Int.reduceToNat, reduceCtorEq, int_lt_irrefl]
    exact szR_zero m1
  · rintro i h x rest m rfl rfl ⟨m1, m2⟩ ih
    have hi : (i : Int) < (xs.length : Int) := by omega
    have hx := g _ (List.getElem_mem h)
    skip
    rw [loopV_by B0_laws_szGateS.eq_1]
    by_cases hc : m - ((wtGate xs[i] : Nat) : Int) < 0
    · have hq : lft m (wtGate xs[i]) = -1 := if_pos hc
      simp (maxSteps := 10000000) (disch := first | assumption | omega) only [EG, EL, ↓reduceIte, Nat.reduceEqDiff, Nat.reduceAdd, Nat.reduceSub, Nat.reduceMul, Nat.reduceLeDiff, Nat.reduceLT, Int.reduceLT, Int.reduceLE, Int.reduceEq, Int.reduceToNat, reduceCtorEq, FB, FT, hi, wrap_succ, getRow _ _ h, cx_laws_szGateS, cl_laws_szGate, sem_laws_szGate, hc, hq, neg1_lt]
      exact szR_neg hc
    · have hq : lft m (wtGate xs[i]) = m - ((wtGate xs[i] : Nat) : Int) := if_neg hc
      simp (maxSteps := 10000000) (disch := first | assumption | omega) only [EG, EL, ↓reduceIte, Nat.reduceEqDiff, Nat.reduceAdd, Nat.reduceSub, Nat.reduceMul, Nat.reduceLeDiff, Nat.reduceLT, Int.reduceLT, Int.reduceLE, Int.reduceEq, Int.reduceToNat, reduceCtorEq, FB, FT, hi, wrap_succ, getRow _ _ h, cx_laws_szGateS, cl_laws_szGate, sem_laws_szGate, hc, hq, neg1_lt]
      skip
      rw [ih _ ⟨by omega, by omega⟩]
      exact szR_pos
theorem sem_laws_szGateS (xs : List DGate) (h : xs.length ≤ 140737488351232) (g : ∀ y ∈ xs, gdGate y) (n : Int) (h1 : -1 ≤ n) (h2 : n ≤ 4611686018427387904) : S_laws_szGateS.sem [.tree 3 (xs.map cGate), .int .i64 n] = some (.int .i64 (lft n (xs.length + tot wtGate xs)), []) := by
  rw [sg_laws_szGateS, sem_go]
  by_cases hc : n - (xs.length : Int) < 0
  · simp (maxSteps := 10000000) (disch := omega) only [F_laws_szGateS, params, EG, EL, ↓reduceIte, Nat.reduceEqDiff, Nat.reduceAdd, Nat.reduceSub, Nat.reduceMul, Nat.reduceLeDiff, Nat.reduceLT, Int.reduceLT, Int.reduceLE, Int.reduceEq, Int.reduceToNat, reduceCtorEq, FB, FT, cx_laws_szGateS, cl_laws_szGate, sem_laws_szGate, wrapI, hc, lft]
    rw [if_pos (by omega)]
  · simp (maxSteps := 10000000) (disch := first | assumption | omega) only [F_laws_szGateS, params, EG, EL, ↓reduceIte, Nat.reduceEqDiff, Nat.reduceAdd, Nat.reduceSub, Nat.reduceMul, Nat.reduceLeDiff, Nat.reduceLT, Int.reduceLT, Int.reduceLE, Int.reduceEq, Int.reduceToNat, reduceCtorEq, FB, FT, cx_laws_szGateS, cl_laws_szGate, sem_laws_szGate, wrapI, hc, loop_laws_szGateS, goE_szR]
    unfold lft
    (repeat' split) <;> first | rfl | omega | (simp only [Option.some.injEq, Prod.mk.injEq, AV.int.injEq, AV.bool.injEq, AV.str.injEq, true_and, and_true]; omega)
theorem sem_laws_szBoolS (xs : List Bool) (h : xs.length ≤ 140737488351232) (n : Int) (h1 : -1 ≤ n) (h2 : n ≤ 4611686018427387904) : S_laws_szBoolS.sem [.tree 1 (xs.map cB), .int .i64 n] = some (.int .i64 (lft n xs.length), []) := by
  rw [sg_laws_szBoolS, sem_go]
  simp +contextual (maxSteps := 10000000) (disch := omega) only [F_laws_szBoolS, params, EG, EL, ↓reduceIte, Nat.reduceEqDiff, Nat.reduceAdd, Nat.reduceSub, Nat.reduceMul, Nat.reduceLeDiff, Nat.reduceLT, Int.reduceLT, Int.reduceLE, Int.reduceEq, Int.reduceToNat, reduceCtorEq, FB, FT, cx_laws_szBoolS, wrapI]
  unfold lft
  split <;> rfl
theorem sem_laws_szKernel (x : DKernel) (g : gdKernel x) (n : Int) (h1 : -1 ≤ n) (h2 : n ≤ 4611686018427387904) : S_laws_szKernel.sem [.agg (cKernel x), .int .i64 n] = some (.int .i64 (lft n (wtKernel x)), []) := by
  obtain ⟨⟨g0, g0e⟩, ⟨g1, g1e⟩, ⟨g2, g2e⟩, g3⟩ := (show (x.Gates.length ≤ 140737488351232 ∧ ∀ y ∈ x.Gates, gdGate y) ∧ (x.Ready.length ≤ 140737488351232 ∧ ∀ y ∈ x.Ready, i64 y) ∧ (x.Saved.length ≤ 140737488351232 ∧ ∀ y ∈ x.Saved, gdCore y) ∧ (x.Over.length ≤ 140737488351232) from g)
  skip
  unfold wtKernel
  have kW := lft_or n ((x.Gates.length + tot wtGate x.Gates) + x.Ready.length + (x.Saved.length + tot wtCore x.Saved) + x.Over.length)
  rw [sg_laws_szKernel, sem_go]
  rcases lft_or (n) (x.Gates.length + tot wtGate x.Gates) with ⟨e0, f0⟩ | ⟨e0, f0⟩
  · simp (maxSteps := 10000000) (disch := first | assumption | omega) only [F_laws_szKernel, params, EG, EL, ↓reduceIte, Nat.reduceEqDiff, Nat.reduceAdd, Nat.reduceSub, Nat.reduceMul, Nat.reduceLeDiff, Nat.reduceLT, Int.reduceLT, Int.reduceLE, Int.reduceEq, Int.reduceToNat, reduceCtorEq, FB, FT, cx_laws_szKernel, cl_laws_szGateS, sem_laws_szGateS, cl_laws_szIntS, sem_laws_szIntS, cl_laws_szCoreS, sem_laws_szCoreS, cl_laws_szBoolS, sem_laws_szBoolS, wrapI, neg1_lt, e0]
    first | done | (simp only [Option.some.injEq, Prod.mk.injEq, AV.int.injEq, AV.bool.injEq, AV.str.injEq, true_and, and_true]; omega)
  · have c0 : ¬ n - ((x.Gates.length + tot wtGate x.Gates : Nat) : Int) < 0 := by omega
    rcases lft_or (n - ((x.Gates.length + tot wtGate x.Gates : Nat) : Int)) (x.Ready.length) with ⟨e1, f1⟩ | ⟨e1, f1⟩
    · simp (maxSteps := 10000000) (disch := first | assumption | omega) only [F_laws_szKernel, params, EG, EL, ↓reduceIte, Nat.reduceEqDiff, Nat.reduceAdd, Nat.reduceSub, Nat.reduceMul, Nat.reduceLeDiff, Nat.reduceLT, Int.reduceLT, Int.reduceLE, Int.reduceEq, Int.reduceToNat, reduceCtorEq, FB, FT, cx_laws_szKernel, cl_laws_szGateS, sem_laws_szGateS, cl_laws_szIntS, sem_laws_szIntS, cl_laws_szCoreS, sem_laws_szCoreS, cl_laws_szBoolS, sem_laws_szBoolS, wrapI, neg1_lt, e0, c0, e1]
      first | done | (simp only [Option.some.injEq, Prod.mk.injEq, AV.int.injEq, AV.bool.injEq, AV.str.injEq, true_and, and_true]; omega)
    · have c1 : ¬ n - ((x.Gates.length + tot wtGate x.Gates : Nat) : Int) - ((x.Ready.length : Nat) : Int) < 0 := by omega
      rcases lft_or (n - ((x.Gates.length + tot wtGate x.Gates : Nat) : Int) - ((x.Ready.length : Nat) : Int)) (x.Saved.length + tot wtCore x.Saved) with ⟨e2, f2⟩ | ⟨e2, f2⟩
      · simp (maxSteps := 10000000) (disch := first | assumption | omega) only [F_laws_szKernel, params, EG, EL, ↓reduceIte, Nat.reduceEqDiff, Nat.reduceAdd, Nat.reduceSub, Nat.reduceMul, Nat.reduceLeDiff, Nat.reduceLT, Int.reduceLT, Int.reduceLE, Int.reduceEq, Int.reduceToNat, reduceCtorEq, FB, FT, cx_laws_szKernel, cl_laws_szGateS, sem_laws_szGateS, cl_laws_szIntS, sem_laws_szIntS, cl_laws_szCoreS, sem_laws_szCoreS, cl_laws_szBoolS, sem_laws_szBoolS, wrapI, neg1_lt, e0, c0, e1, c1, e2]
        first | done | (simp only [Option.some.injEq, Prod.mk.injEq, AV.int.injEq, AV.bool.injEq, AV.str.injEq, true_and, and_true]; omega)
      · have c2 : ¬ n - ((x.Gates.length + tot wtGate x.Gates : Nat) : Int) - ((x.Ready.length : Nat) : Int) - ((x.Saved.length + tot wtCore x.Saved : Nat) : Int) < 0 := by omega
        rcases lft_or (n - ((x.Gates.length + tot wtGate x.Gates : Nat) : Int) - ((x.Ready.length : Nat) : Int) - ((x.Saved.length + tot wtCore x.Saved : Nat) : Int)) (x.Over.length) with ⟨e3, f3⟩ | ⟨e3, f3⟩
        · simp (maxSteps := 10000000) (disch := first | assumption | omega) only [F_laws_szKernel, params, EG, EL, ↓reduceIte, Nat.reduceEqDiff, Nat.reduceAdd, Nat.reduceSub, Nat.reduceMul, Nat.reduceLeDiff, Nat.reduceLT, Int.reduceLT, Int.reduceLE, Int.reduceEq, Int.reduceToNat, reduceCtorEq, FB, FT, cx_laws_szKernel, cl_laws_szGateS, sem_laws_szGateS, cl_laws_szIntS, sem_laws_szIntS, cl_laws_szCoreS, sem_laws_szCoreS, cl_laws_szBoolS, sem_laws_szBoolS, wrapI, neg1_lt, e0, c0, e1, c1, e2, c2, e3]
          first | done | (simp only [Option.some.injEq, Prod.mk.injEq, AV.int.injEq, AV.bool.injEq, AV.str.injEq, true_and, and_true]; omega)
        · have c3 : ¬ n - ((x.Gates.length + tot wtGate x.Gates : Nat) : Int) - ((x.Ready.length : Nat) : Int) - ((x.Saved.length + tot wtCore x.Saved : Nat) : Int) - ((x.Over.length : Nat) : Int) < 0 := by omega
          simp (maxSteps := 10000000) (disch := first | assumption | omega) only [F_laws_szKernel, params, EG, EL, ↓reduceIte, Nat.reduceEqDiff, Nat.reduceAdd, Nat.reduceSub, Nat.reduceMul, Nat.reduceLeDiff, Nat.reduceLT, Int.reduceLT, Int.reduceLE, Int.reduceEq, Int.reduceToNat, reduceCtorEq, FB, FT, cx_laws_szKernel, cl_laws_szGateS, sem_laws_szGateS, cl_laws_szIntS, sem_laws_szIntS, cl_laws_szCoreS, sem_laws_szCoreS, cl_laws_szBoolS, sem_laws_szBoolS, wrapI, neg1_lt, e0, c0, e1, c1, e2, c2, e3, c3]
          first | done | rfl | (simp only [Option.some.injEq, Prod.mk.injEq, AV.int.injEq, AV.bool.injEq, AV.str.injEq, true_and, and_true]; omega)
theorem sem_laws_szEventS (xs : List DEvent) (h : xs.length ≤ 140737488351232) (n : Int) (h1 : -1 ≤ n) (h2 : n ≤ 4611686018427387904) : S_laws_szEventS.sem [.tree 3 (xs.map cEvent), .int .i64 n] = some (.int .i64 (lft n xs.length), []) := by
  rw [sg_laws_szEventS, sem_go]
  simp +contextual (maxSteps := 10000000) (disch := omega) only [F_laws_szEventS, params, EG, EL, ↓reduceIte, Nat.reduceEqDiff, Nat.reduceAdd, Nat.reduceSub, Nat.reduceMul, Nat.reduceLeDiff, Nat.reduceLT, Int.reduceLT, Int.reduceLE, Int.reduceEq, Int.reduceToNat, reduceCtorEq, FB, FT, cx_laws_szEventS, wrapI]
  unfold lft
  split <;> rfl
theorem sem_laws_szMachine (x : DMachine) (g : gdMachine x) (n : Int) (h1 : -1 ≤ n) (h2 : n ≤ 4611686018427387904) : S_laws_szMachine.sem [.agg (cMachine x), .int .i64 n] = some (.int .i64 (lft n (wtMachine x)), []) := by
  obtain ⟨g0, ⟨g1, g1e⟩, ⟨g2, g2e⟩, g3, ⟨g4, g4e⟩, ⟨g5, g5e⟩⟩ := (show gdImage x.Image ∧ (x.Mem.length ≤ 140737488351232 ∧ ∀ y ∈ x.Mem, i64 y) ∧ (x.Cores.length ≤ 140737488351232 ∧ ∀ y ∈ x.Cores, gdCore y) ∧ gdKernel x.Kernel ∧ (x.Input.length ≤ 140737488351232 ∧ ∀ y ∈ x.Input, i64 y) ∧ (x.Events.length ≤ 140737488351232 ∧ ∀ y ∈ x.Events, gdEvent y) from g)
  skip
  unfold wtMachine
  have kW := lft_or n ((wtImage x.Image) + x.Mem.length + (x.Cores.length + tot wtCore x.Cores) + (wtKernel x.Kernel) + x.Input.length + x.Events.length)
  rw [sg_laws_szMachine, sem_go]
  rcases lft_or (n) (wtImage x.Image) with ⟨e0, f0⟩ | ⟨e0, f0⟩
  · simp (maxSteps := 10000000) (disch := first | assumption | omega) only [F_laws_szMachine, params, EG, EL, ↓reduceIte, Nat.reduceEqDiff, Nat.reduceAdd, Nat.reduceSub, Nat.reduceMul, Nat.reduceLeDiff, Nat.reduceLT, Int.reduceLT, Int.reduceLE, Int.reduceEq, Int.reduceToNat, reduceCtorEq, FB, FT, cx_laws_szMachine, cl_laws_szImage, sem_laws_szImage, cl_laws_szIntS, sem_laws_szIntS, cl_laws_szCoreS, sem_laws_szCoreS, cl_laws_szKernel, sem_laws_szKernel, cl_laws_szEventS, sem_laws_szEventS, wrapI, neg1_lt, e0]
    first | done | (simp only [Option.some.injEq, Prod.mk.injEq, AV.int.injEq, AV.bool.injEq, AV.str.injEq, true_and, and_true]; omega)
  · have c0 : ¬ n - ((wtImage x.Image : Nat) : Int) < 0 := by omega
    rcases lft_or (n - ((wtImage x.Image : Nat) : Int)) (x.Mem.length) with ⟨e1, f1⟩ | ⟨e1, f1⟩
    · simp (maxSteps := 10000000) (disch := first | assumption | omega) only [F_laws_szMachine, params, EG, EL, ↓reduceIte, Nat.reduceEqDiff, Nat.reduceAdd, Nat.reduceSub, Nat.reduceMul, Nat.reduceLeDiff, Nat.reduceLT, Int.reduceLT, Int.reduceLE, Int.reduceEq, Int.reduceToNat, reduceCtorEq, FB, FT, cx_laws_szMachine, cl_laws_szImage, sem_laws_szImage, cl_laws_szIntS, sem_laws_szIntS, cl_laws_szCoreS, sem_laws_szCoreS, cl_laws_szKernel, sem_laws_szKernel, cl_laws_szEventS, sem_laws_szEventS, wrapI, neg1_lt, e0, c0, e1]
      first | done | (simp only [Option.some.injEq, Prod.mk.injEq, AV.int.injEq, AV.bool.injEq, AV.str.injEq, true_and, and_true]; omega)
    · have c1 : ¬ n - ((wtImage x.Image : Nat) : Int) - ((x.Mem.length : Nat) : Int) < 0 := by omega
      rcases lft_or (n - ((wtImage x.Image : Nat) : Int) - ((x.Mem.length : Nat) : Int)) (x.Cores.length + tot wtCore x.Cores) with ⟨e2, f2⟩ | ⟨e2, f2⟩
      · simp (maxSteps := 10000000) (disch := first | assumption | omega) only [F_laws_szMachine, params, EG, EL, ↓reduceIte, Nat.reduceEqDiff, Nat.reduceAdd, Nat.reduceSub, Nat.reduceMul, Nat.reduceLeDiff, Nat.reduceLT, Int.reduceLT, Int.reduceLE, Int.reduceEq, Int.reduceToNat, reduceCtorEq, FB, FT, cx_laws_szMachine, cl_laws_szImage, sem_laws_szImage, cl_laws_szIntS, sem_laws_szIntS, cl_laws_szCoreS, sem_laws_szCoreS, cl_laws_szKernel, sem_laws_szKernel, cl_laws_szEventS, sem_laws_szEventS, wrapI, neg1_lt, e0, c0, e1, c1, e2]
        first | done | (simp only [Option.some.injEq, Prod.mk.injEq, AV.int.injEq, AV.bool.injEq, AV.str.injEq, true_and, and_true]; omega)
      · have c2 : ¬ n - ((wtImage x.Image : Nat) : Int) - ((x.Mem.length : Nat) : Int) - ((x.Cores.length + tot wtCore x.Cores : Nat) : Int) < 0 := by omega
        rcases lft_or (n - ((wtImage x.Image : Nat) : Int) - ((x.Mem.length : Nat) : Int) - ((x.Cores.length + tot wtCore x.Cores : Nat) : Int)) (wtKernel x.Kernel) with ⟨e3, f3⟩ | ⟨e3, f3⟩
        · simp (maxSteps := 10000000) (disch := first | assumption | omega) only [F_laws_szMachine, params, EG, EL, ↓reduceIte, Nat.reduceEqDiff, Nat.reduceAdd, Nat.reduceSub, Nat.reduceMul, Nat.reduceLeDiff, Nat.reduceLT, Int.reduceLT, Int.reduceLE, Int.reduceEq, Int.reduceToNat, reduceCtorEq, FB, FT, cx_laws_szMachine, cl_laws_szImage, sem_laws_szImage, cl_laws_szIntS, sem_laws_szIntS, cl_laws_szCoreS, sem_laws_szCoreS, cl_laws_szKernel, sem_laws_szKernel, cl_laws_szEventS, sem_laws_szEventS, wrapI, neg1_lt, e0, c0, e1, c1, e2, c2, e3]
          first | done | (simp only [Option.some.injEq, Prod.mk.injEq, AV.int.injEq, AV.bool.injEq, AV.str.injEq, true_and, and_true]; omega)
        · have c3 : ¬ n - ((wtImage x.Image : Nat) : Int) - ((x.Mem.length : Nat) : Int) - ((x.Cores.length + tot wtCore x.Cores : Nat) : Int) - ((wtKernel x.Kernel : Nat) : Int) < 0 := by omega
          rcases lft_or (n - ((wtImage x.Image : Nat) : Int) - ((x.Mem.length : Nat) : Int) - ((x.Cores.length + tot wtCore x.Cores : Nat) : Int) - ((wtKernel x.Kernel : Nat) : Int)) (x.Input.length) with ⟨e4, f4⟩ | ⟨e4, f4⟩
          · simp (maxSteps := 10000000) (disch := first | assumption | omega) only [F_laws_szMachine, params, EG, EL, ↓reduceIte, Nat.reduceEqDiff, Nat.reduceAdd, Nat.reduceSub, Nat.reduceMul, Nat.reduceLeDiff, Nat.reduceLT, Int.reduceLT, Int.reduceLE, Int.reduceEq, Int.reduceToNat, reduceCtorEq, FB, FT, cx_laws_szMachine, cl_laws_szImage, sem_laws_szImage, cl_laws_szIntS, sem_laws_szIntS, cl_laws_szCoreS, sem_laws_szCoreS, cl_laws_szKernel, sem_laws_szKernel, cl_laws_szEventS, sem_laws_szEventS, wrapI, neg1_lt, e0, c0, e1, c1, e2, c2, e3, c3, e4]
            first | done | (simp only [Option.some.injEq, Prod.mk.injEq, AV.int.injEq, AV.bool.injEq, AV.str.injEq, true_and, and_true]; omega)
          · have c4 : ¬ n - ((wtImage x.Image : Nat) : Int) - ((x.Mem.length : Nat) : Int) - ((x.Cores.length + tot wtCore x.Cores : Nat) : Int) - ((wtKernel x.Kernel : Nat) : Int) - ((x.Input.length : Nat) : Int) < 0 := by omega
            rcases lft_or (n - ((wtImage x.Image : Nat) : Int) - ((x.Mem.length : Nat) : Int) - ((x.Cores.length + tot wtCore x.Cores : Nat) : Int) - ((wtKernel x.Kernel : Nat) : Int) - ((x.Input.length : Nat) : Int)) (x.Events.length) with ⟨e5, f5⟩ | ⟨e5, f5⟩
            · simp (maxSteps := 10000000) (disch := first | assumption | omega) only [F_laws_szMachine, params, EG, EL, ↓reduceIte, Nat.reduceEqDiff, Nat.reduceAdd, Nat.reduceSub, Nat.reduceMul, Nat.reduceLeDiff, Nat.reduceLT, Int.reduceLT, Int.reduceLE, Int.reduceEq, Int.reduceToNat, reduceCtorEq, FB, FT, cx_laws_szMachine, cl_laws_szImage, sem_laws_szImage, cl_laws_szIntS, sem_laws_szIntS, cl_laws_szCoreS, sem_laws_szCoreS, cl_laws_szKernel, sem_laws_szKernel, cl_laws_szEventS, sem_laws_szEventS, wrapI, neg1_lt, e0, c0, e1, c1, e2, c2, e3, c3, e4, c4, e5]
              first | done | (simp only [Option.some.injEq, Prod.mk.injEq, AV.int.injEq, AV.bool.injEq, AV.str.injEq, true_and, and_true]; omega)
            · have c5 : ¬ n - ((wtImage x.Image : Nat) : Int) - ((x.Mem.length : Nat) : Int) - ((x.Cores.length + tot wtCore x.Cores : Nat) : Int) - ((wtKernel x.Kernel : Nat) : Int) - ((x.Input.length : Nat) : Int) - ((x.Events.length : Nat) : Int) < 0 := by omega
              simp (maxSteps := 10000000) (disch := first | assumption | omega) only [F_laws_szMachine, params, EG, EL, ↓reduceIte, Nat.reduceEqDiff, Nat.reduceAdd, Nat.reduceSub, Nat.reduceMul, Nat.reduceLeDiff, Nat.reduceLT, Int.reduceLT, Int.reduceLE, Int.reduceEq, Int.reduceToNat, reduceCtorEq, FB, FT, cx_laws_szMachine, cl_laws_szImage, sem_laws_szImage, cl_laws_szIntS, sem_laws_szIntS, cl_laws_szCoreS, sem_laws_szCoreS, cl_laws_szKernel, sem_laws_szKernel, cl_laws_szEventS, sem_laws_szEventS, wrapI, neg1_lt, e0, c0, e1, c1, e2, c2, e3, c3, e4, c4, e5, c5]
              first | done | rfl | (simp only [Option.some.injEq, Prod.mk.injEq, AV.int.injEq, AV.bool.injEq, AV.str.injEq, true_and, and_true]; omega)
theorem loop_laws_toIntS (xs : List Int) (hl : xs.length ≤ 1048576) :
    loopV X_laws_toIntS 0 [0, 3, 4] [(1, [3])] B0_laws_toIntS ⟨[(0, .tree 1 (xs.map cI)), (3, .sl ⟨0, none, 0⟩ 1 0 xs.length), (4, .int .i64 0)], [some ⟨false, 0, 1, fillR cI [.int .i64 0] xs 0⟩]⟩ = some (.exit 0, ⟨[(3, .sl ⟨0, none, 0⟩ 1 0 xs.length)], [some ⟨false, 0, 1, xs.map cI⟩]⟩) := by
  refine loop_list xs (fun _ (_ : Unit) => True) (fun i _ => ⟨[(0, .tree 1 (xs.map cI)), (3, .sl ⟨0, none, 0⟩ 1 0 xs.length), (4, .int .i64 ((i : Nat) : Int))], [some ⟨false, 0, 1, fillR cI [.int .i64 0] xs i⟩]⟩) (fun _ _ => some (.exit 0, ⟨[(3, .sl ⟨0, none, 0⟩ 1 0 xs.length)], [some ⟨false, 0, 1, xs.map cI⟩]⟩)) ?_ ?_ () trivial
  · intro _ _
    rw [loopV_by B0_laws_toIntS.eq_1]
    simp only [EG, EL, ↓reduceIte, Nat.reduceEqDiff, Nat.reduceAdd, Nat.reduceSub, Nat.reduceMul, Nat.reduceLeDiff, Nat.reduceLT, Int.reduceLT, Int.reduceLE, Int.reduceEq, Int.reduceToNat, reduceCtorEq, int_lt_irrefl, fillR_end]
  · rintro i h x rest _ rfl rfl _ ih
    have hi : (i : Int) < (xs.length : Int) := by omega
    skip
    have hf := fillR_set (c := cI) (z := [.int .i64 0]) h rfl
    simp only [cI] at hf
    rw [loopV_by B0_laws_toIntS.eq_1]
    simp (maxSteps := 10000000) (disch := first | assumption | omega) only [EG, EL, ↓reduceIte, Nat.reduceEqDiff, Nat.reduceAdd, Nat.reduceSub, Nat.reduceMul, Nat.reduceLeDiff, Nat.reduceLT, Int.reduceLT, Int.reduceLE, Int.reduceEq, Int.reduceToNat, reduceCtorEq, FB, FT, hi, h, wrap_succ, getRow _ _ h, fillR_get h, fillR_length (Nat.le_of_lt h), cx_laws_toIntS]
    simp only [splice_eq, EG, EL, ↓reduceIte, Nat.reduceEqDiff, Nat.reduceAdd, Nat.reduceSub, Nat.reduceMul, Nat.reduceLeDiff, Nat.reduceLT, Int.reduceLT, Int.reduceLE, Int.reduceEq, Int.reduceToNat, reduceCtorEq, hf]
    exact ih () trivial
theorem sem_laws_toIntS (xs : List Int) (h : xs.length ≤ 1048576) : S_laws_toIntS.sem [.tree 1 (xs.map cI)] = some (.tree 1 (xs.map cI), []) := by
  rw [sg_laws_toIntS, sem_go]
  simp (maxSteps := 10000000) (disch := omega) only [F_laws_toIntS, params, EG, EL, ↓reduceIte, Nat.reduceEqDiff, Nat.reduceAdd, Nat.reduceSub, Nat.reduceMul, Nat.reduceLeDiff, Nat.reduceLT, Int.reduceLT, Int.reduceLE, Int.reduceEq, Int.reduceToNat, reduceCtorEq, FB, FT, cx_laws_toIntS, fillR_zero cI, loop_laws_toIntS xs h]
  rw [if_pos (by omega)]
theorem sem_laws_toImage (x : DImage) (h : wtImage x ≤ 1048576) : S_laws_toImage.sem [.agg (cImage x)] = some (.agg (cImage x), []) := by
  unfold wtImage at h
  rw [sg_laws_toImage, sem_go]
  simp (maxSteps := 10000000) (disch := omega) only [F_laws_toImage, params, EG, EL, ↓reduceIte, Nat.reduceEqDiff, Nat.reduceAdd, Nat.reduceSub, Nat.reduceMul, Nat.reduceLeDiff, Nat.reduceLT, Int.reduceLT, Int.reduceLE, Int.reduceEq, Int.reduceToNat, reduceCtorEq, FB, FT, cx_laws_toImage, cl_laws_toIntS, sem_laws_toIntS]
theorem sem_laws_toCore (x : DCore) (h : wtCore x ≤ 1048576) : S_laws_toCore.sem [.agg (cCore x)] = some (.agg (cCore x), []) := by
  unfold wtCore at h
  rw [sg_laws_toCore, sem_go]
  simp (maxSteps := 10000000) (disch := omega) only [F_laws_toCore, params, EG, EL, ↓reduceIte, Nat.reduceEqDiff, Nat.reduceAdd, Nat.reduceSub, Nat.reduceMul, Nat.reduceLeDiff, Nat.reduceLT, Int.reduceLT, Int.reduceLE, Int.reduceEq, Int.reduceToNat, reduceCtorEq, FB, FT, cx_laws_toCore, cl_laws_toIntS, sem_laws_toIntS]
theorem loop_laws_toCoreS (xs : List DCore) (hl : xs.length + tot wtCore xs ≤ 1048576) :
    loopV X_laws_toCoreS 0 [0, 3, 4] [(1, [3])] B0_laws_toCoreS ⟨[(0, .tree 3 (xs.map cCore)), (3, .sl ⟨0, none, 0⟩ 3 0 xs.length), (4, .int .i64 0)], [some ⟨false, 0, 3, fillR cCore [.tree 1 [], .int .i64 0, .int .i64 0] xs 0⟩]⟩ = some (.exit 0, ⟨[(3, .sl ⟨0, none, 0⟩ 3 0 xs.length)], [some ⟨false, 0, 3, xs.map cCore⟩]⟩) := by
  refine loop_list xs (fun _ (_ : Unit) => True) (fun i _ => ⟨[(0, .tree 3 (xs.map cCore)), (3, .sl ⟨0, none, 0⟩ 3 0 xs.length), (4, .int .i64 ((i : Nat) : Int))], [some ⟨false, 0, 3, fillR cCore [.tree 1 [], .int .i64 0, .int .i64 0] xs i⟩]⟩) (fun _ _ => some (.exit 0, ⟨[(3, .sl ⟨0, none, 0⟩ 3 0 xs.length)], [some ⟨false, 0, 3, xs.map cCore⟩]⟩)) ?_ ?_ () trivial
  · intro _ _
    rw [loopV_by B0_laws_toCoreS.eq_1]
    simp only [EG, EL, ↓reduceIte, Nat.reduceEqDiff, Nat.reduceAdd, Nat.reduceSub, Nat.reduceMul, Nat.reduceLeDiff, Nat.reduceLT, Int.reduceLT, Int.reduceLE, Int.reduceEq, Int.reduceToNat, reduceCtorEq, int_lt_irrefl, fillR_end]
  · rintro i h x rest _ rfl rfl _ ih
    have hi : (i : Int) < (xs.length : Int) := by omega
    have hx : wtCore xs[i] ≤ 1048576 := by have := le_tot wtCore (List.getElem_mem h); omega
    have hf := fillR_set (c := cCore) (z := [.tree 1 [], .int .i64 0, .int .i64 0]) h rfl
    simp only [cCore] at hf
    rw [loopV_by B0_laws_toCoreS.eq_1]
    simp (maxSteps := 10000000) (disch := first | assumption | omega) only [EG, EL, ↓reduceIte, Nat.reduceEqDiff, Nat.reduceAdd, Nat.reduceSub, Nat.reduceMul, Nat.reduceLeDiff, Nat.reduceLT, Int.reduceLT, Int.reduceLE, Int.reduceEq, Int.reduceToNat, reduceCtorEq, FB, FT, hi, h, wrap_succ, getRow _ _ h, fillR_get h, fillR_length (Nat.le_of_lt h), cx_laws_toCoreS, cl_laws_toCore, sem_laws_toCore]
    simp only [splice_eq, EG, EL, ↓reduceIte, Nat.reduceEqDiff, Nat.reduceAdd, Nat.reduceSub, Nat.reduceMul, Nat.reduceLeDiff, Nat.reduceLT, Int.reduceLT, Int.reduceLE, Int.reduceEq, Int.reduceToNat, reduceCtorEq, hf]
    exact ih () trivial
theorem sem_laws_toCoreS (xs : List DCore) (h : xs.length + tot wtCore xs ≤ 1048576) : S_laws_toCoreS.sem [.tree 3 (xs.map cCore)] = some (.tree 3 (xs.map cCore), []) := by
  rw [sg_laws_toCoreS, sem_go]
  simp (maxSteps := 10000000) (disch := omega) only [F_laws_toCoreS, params, EG, EL, ↓reduceIte, Nat.reduceEqDiff, Nat.reduceAdd, Nat.reduceSub, Nat.reduceMul, Nat.reduceLeDiff, Nat.reduceLT, Int.reduceLT, Int.reduceLE, Int.reduceEq, Int.reduceToNat, reduceCtorEq, FB, FT, cx_laws_toCoreS, cl_laws_toCore, sem_laws_toCore, fillR_zero cCore, loop_laws_toCoreS xs h]
  rw [if_pos (by omega)]
theorem sem_laws_toGate (x : DGate) (h : wtGate x ≤ 1048576) : S_laws_toGate.sem [.agg (cGate x)] = some (.agg (cGate x), []) := by
  unfold wtGate at h
  rw [sg_laws_toGate, sem_go]
  simp (maxSteps := 10000000) (disch := omega) only [F_laws_toGate, params, EG, EL, ↓reduceIte, Nat.reduceEqDiff, Nat.reduceAdd, Nat.reduceSub, Nat.reduceMul, Nat.reduceLeDiff, Nat.reduceLT, Int.reduceLT, Int.reduceLE, Int.reduceEq, Int.reduceToNat, reduceCtorEq, FB, FT, cx_laws_toGate, cl_laws_toIntS, sem_laws_toIntS]
theorem loop_laws_toGateS (xs : List DGate) (hl : xs.length + tot wtGate xs ≤ 1048576) :
    loopV X_laws_toGateS 0 [0, 3, 4] [(1, [3])] B0_laws_toGateS ⟨[(0, .tree 3 (xs.map cGate)), (3, .sl ⟨0, none, 0⟩ 3 0 xs.length), (4, .int .i64 0)], [some ⟨false, 0, 3, fillR cGate [.int .i64 0, .tree 1 [], .tree 1 []] xs 0⟩]⟩ = some (.exit 0, ⟨[(3, .sl ⟨0, none, 0⟩ 3 0 xs.length)], [some ⟨false, 0, 3, xs.map cGate⟩]⟩) := by
  refine loop_list xs (fun _ (_ : Unit) => True) (fun i _ => ⟨[(0, .tree 3 (xs.map cGate)), (3, .sl ⟨0, none, 0⟩ 3 0 xs.length), (4, .int .i64 ((i : Nat) : Int))], [some ⟨false, 0, 3, fillR cGate [.int .i64 0, .tree 1 [], .tree 1 []] xs i⟩]⟩) (fun _ _ => some (.exit 0, ⟨[(3, .sl ⟨0, none, 0⟩ 3 0 xs.length)], [some ⟨false, 0, 3, xs.map cGate⟩]⟩)) ?_ ?_ () trivial
  · intro _ _
    rw [loopV_by B0_laws_toGateS.eq_1]
    simp only [EG, EL, ↓reduceIte, Nat.reduceEqDiff, Nat.reduceAdd, Nat.reduceSub, Nat.reduceMul, Nat.reduceLeDiff, Nat.reduceLT, Int.reduceLT, Int.reduceLE, Int.reduceEq, Int.reduceToNat, reduceCtorEq, int_lt_irrefl, fillR_end]
  · rintro i h x rest _ rfl rfl _ ih
    have hi : (i : Int) < (xs.length : Int) := by omega
    have hx : wtGate xs[i] ≤ 1048576 := by have := le_tot wtGate (List.getElem_mem h); omega
    have hf := fillR_set (c := cGate) (z := [.int .i64 0, .tree 1 [], .tree 1 []]) h rfl
    simp only [cGate] at hf
    rw [loopV_by B0_laws_toGateS.eq_1]
    simp (maxSteps := 10000000) (disch := first | assumption | omega) only [EG, EL, ↓reduceIte, Nat.reduceEqDiff, Nat.reduceAdd, Nat.reduceSub, Nat.reduceMul, Nat.reduceLeDiff, Nat.reduceLT, Int.reduceLT, Int.reduceLE, Int.reduceEq, Int.reduceToNat, reduceCtorEq, FB, FT, hi, h, wrap_succ, getRow _ _ h, fillR_get h, fillR_length (Nat.le_of_lt h), cx_laws_toGateS, cl_laws_toGate, sem_laws_toGate]
    simp only [splice_eq, EG, EL, ↓reduceIte, Nat.reduceEqDiff, Nat.reduceAdd, Nat.reduceSub, Nat.reduceMul, Nat.reduceLeDiff, Nat.reduceLT, Int.reduceLT, Int.reduceLE, Int.reduceEq, Int.reduceToNat, reduceCtorEq, hf]
    exact ih () trivial
theorem sem_laws_toGateS (xs : List DGate) (h : xs.length + tot wtGate xs ≤ 1048576) : S_laws_toGateS.sem [.tree 3 (xs.map cGate)] = some (.tree 3 (xs.map cGate), []) := by
  rw [sg_laws_toGateS, sem_go]
  simp (maxSteps := 10000000) (disch := omega) only [F_laws_toGateS, params, EG, EL, ↓reduceIte, Nat.reduceEqDiff, Nat.reduceAdd, Nat.reduceSub, Nat.reduceMul, Nat.reduceLeDiff, Nat.reduceLT, Int.reduceLT, Int.reduceLE, Int.reduceEq, Int.reduceToNat, reduceCtorEq, FB, FT, cx_laws_toGateS, cl_laws_toGate, sem_laws_toGate, fillR_zero cGate, loop_laws_toGateS xs h]
  rw [if_pos (by omega)]
theorem loop_laws_toBoolS (xs : List Bool) (hl : xs.length ≤ 1048576) :
    loopV X_laws_toBoolS 0 [0, 3, 4] [(1, [3])] B0_laws_toBoolS ⟨[(0, .tree 1 (xs.map cB)), (3, .sl ⟨0, none, 0⟩ 1 0 xs.length), (4, .int .i64 0)], [some ⟨false, 0, 1, fillR cB [.bool false] xs 0⟩]⟩ = some (.exit 0, ⟨[(3, .sl ⟨0, none, 0⟩ 1 0 xs.length)], [some ⟨false, 0, 1, xs.map cB⟩]⟩) := by
  refine loop_list xs (fun _ (_ : Unit) => True) (fun i _ => ⟨[(0, .tree 1 (xs.map cB)), (3, .sl ⟨0, none, 0⟩ 1 0 xs.length), (4, .int .i64 ((i : Nat) : Int))], [some ⟨false, 0, 1, fillR cB [.bool false] xs i⟩]⟩) (fun _ _ => some (.exit 0, ⟨[(3, .sl ⟨0, none, 0⟩ 1 0 xs.length)], [some ⟨false, 0, 1, xs.map cB⟩]⟩)) ?_ ?_ () trivial
  · intro _ _
    rw [loopV_by B0_laws_toBoolS.eq_1]
    simp only [EG, EL, ↓reduceIte, Nat.reduceEqDiff, Nat.reduceAdd, Nat.reduceSub, Nat.reduceMul, Nat.reduceLeDiff, Nat.reduceLT, Int.reduceLT, Int.reduceLE, Int.reduceEq, Int.reduceToNat, reduceCtorEq, int_lt_irrefl, fillR_end]
  · rintro i h x rest _ rfl rfl _ ih
    have hi : (i : Int) < (xs.length : Int) := by omega
    skip
    have hf := fillR_set (c := cB) (z := [.bool false]) h rfl
    simp only [cB] at hf
    rw [loopV_by B0_laws_toBoolS.eq_1]
    simp (maxSteps := 10000000) (disch := first | assumption | omega) only [EG, EL, ↓reduceIte, Nat.reduceEqDiff, Nat.reduceAdd, Nat.reduceSub, Nat.reduceMul, Nat.reduceLeDiff, Nat.reduceLT, Int.reduceLT, Int.reduceLE, Int.reduceEq, Int.reduceToNat, reduceCtorEq, FB, FT, hi, h, wrap_succ, getRow _ _ h, fillR_get h, fillR_length (Nat.le_of_lt h), cx_laws_toBoolS]
    simp only [splice_eq, EG, EL, ↓reduceIte, Nat.reduceEqDiff, Nat.reduceAdd, Nat.reduceSub, Nat.reduceMul, Nat.reduceLeDiff, Nat.reduceLT, Int.reduceLT, Int.reduceLE, Int.reduceEq, Int.reduceToNat, reduceCtorEq, hf]
    exact ih () trivial
theorem sem_laws_toBoolS (xs : List Bool) (h : xs.length ≤ 1048576) : S_laws_toBoolS.sem [.tree 1 (xs.map cB)] = some (.tree 1 (xs.map cB), []) := by
  rw [sg_laws_toBoolS, sem_go]
  simp (maxSteps := 10000000) (disch := omega) only [F_laws_toBoolS, params, EG, EL, ↓reduceIte, Nat.reduceEqDiff, Nat.reduceAdd, Nat.reduceSub, Nat.reduceMul, Nat.reduceLeDiff, Nat.reduceLT, Int.reduceLT, Int.reduceLE, Int.reduceEq, Int.reduceToNat, reduceCtorEq, FB, FT, cx_laws_toBoolS, fillR_zero cB, loop_laws_toBoolS xs h]
  rw [if_pos (by omega)]
theorem sem_laws_toKernel (x : DKernel) (h : wtKernel x ≤ 1048576) : S_laws_toKernel.sem [.agg (cKernel x)] = some (.agg (cKernel x), []) := by
  unfold wtKernel at h
  rw [sg_laws_toKernel, sem_go]
  simp (maxSteps := 10000000) (disch := omega) only [F_laws_toKernel, params, EG, EL, ↓reduceIte, Nat.reduceEqDiff, Nat.reduceAdd, Nat.reduceSub, Nat.reduceMul, Nat.reduceLeDiff, Nat.reduceLT, Int.reduceLT, Int.reduceLE, Int.reduceEq, Int.reduceToNat, reduceCtorEq, FB, FT, cx_laws_toKernel, cl_laws_toGateS, sem_laws_toGateS, cl_laws_toIntS, sem_laws_toIntS, cl_laws_toCoreS, sem_laws_toCoreS, cl_laws_toBoolS, sem_laws_toBoolS]
theorem sem_laws_toEvent (x : DEvent) : S_laws_toEvent.sem [.agg (cEvent x)] = some (.agg (cEvent x), []) := by
  skip
  rw [sg_laws_toEvent, sem_go]
  simp (maxSteps := 10000000) (disch := omega) only [F_laws_toEvent, params, EG, EL, ↓reduceIte, Nat.reduceEqDiff, Nat.reduceAdd, Nat.reduceSub, Nat.reduceMul, Nat.reduceLeDiff, Nat.reduceLT, Int.reduceLT, Int.reduceLE, Int.reduceEq, Int.reduceToNat, reduceCtorEq, FB, FT, cx_laws_toEvent]
theorem loop_laws_toEventS (xs : List DEvent) (hl : xs.length ≤ 1048576) :
    loopV X_laws_toEventS 0 [0, 3, 4] [(1, [3])] B0_laws_toEventS ⟨[(0, .tree 3 (xs.map cEvent)), (3, .sl ⟨0, none, 0⟩ 3 0 xs.length), (4, .int .i64 0)], [some ⟨false, 0, 3, fillR cEvent [.int .i64 0, .int .i64 0, .int .i64 0] xs 0⟩]⟩ = some (.exit 0, ⟨[(3, .sl ⟨0, none, 0⟩ 3 0 xs.length)], [some ⟨false, 0, 3, xs.map cEvent⟩]⟩) := by
  refine loop_list xs (fun _ (_ : Unit) => True) (fun i _ => ⟨[(0, .tree 3 (xs.map cEvent)), (3, .sl ⟨0, none, 0⟩ 3 0 xs.length), (4, .int .i64 ((i : Nat) : Int))], [some ⟨false, 0, 3, fillR cEvent [.int .i64 0, .int .i64 0, .int .i64 0] xs i⟩]⟩) (fun _ _ => some (.exit 0, ⟨[(3, .sl ⟨0, none, 0⟩ 3 0 xs.length)], [some ⟨false, 0, 3, xs.map cEvent⟩]⟩)) ?_ ?_ () trivial
  · intro _ _
    rw [loopV_by B0_laws_toEventS.eq_1]
    simp only [EG, EL, ↓reduceIte, Nat.reduceEqDiff, Nat.reduceAdd, Nat.reduceSub, Nat.reduceMul, Nat.reduceLeDiff, Nat.reduceLT, Int.reduceLT, Int.reduceLE, Int.reduceEq, Int.reduceToNat, reduceCtorEq, int_lt_irrefl, fillR_end]
  · rintro i h x rest _ rfl rfl _ ih
    have hi : (i : Int) < (xs.length : Int) := by omega
    skip
    have hf := fillR_set (c := cEvent) (z := [.int .i64 0, .int .i64 0, .int .i64 0]) h rfl
    simp only [cEvent] at hf
    rw [loopV_by B0_laws_toEventS.eq_1]
    simp (maxSteps := 10000000) (disch := first | assumption | omega) only [EG, EL, ↓reduceIte, Nat.reduceEqDiff, Nat.reduceAdd, Nat.reduceSub, Nat.reduceMul, Nat.reduceLeDiff, Nat.reduceLT, Int.reduceLT, Int.reduceLE, Int.reduceEq, Int.reduceToNat, reduceCtorEq, FB, FT, hi, h, wrap_succ, getRow _ _ h, fillR_get h, fillR_length (Nat.le_of_lt h), cx_laws_toEventS, cl_laws_toEvent, sem_laws_toEvent]
    simp only [splice_eq, EG, EL, ↓reduceIte, Nat.reduceEqDiff, Nat.reduceAdd, Nat.reduceSub, Nat.reduceMul, Nat.reduceLeDiff, Nat.reduceLT, Int.reduceLT, Int.reduceLE, Int.reduceEq, Int.reduceToNat, reduceCtorEq, hf]
    exact ih () trivial
theorem sem_laws_toEventS (xs : List DEvent) (h : xs.length ≤ 1048576) : S_laws_toEventS.sem [.tree 3 (xs.map cEvent)] = some (.tree 3 (xs.map cEvent), []) := by
  rw [sg_laws_toEventS, sem_go]
  simp (maxSteps := 10000000) (disch := omega) only [F_laws_toEventS, params, EG, EL, ↓reduceIte, Nat.reduceEqDiff, Nat.reduceAdd, Nat.reduceSub, Nat.reduceMul, Nat.reduceLeDiff, Nat.reduceLT, Int.reduceLT, Int.reduceLE, Int.reduceEq, Int.reduceToNat, reduceCtorEq, FB, FT, cx_laws_toEventS, cl_laws_toEvent, sem_laws_toEvent, fillR_zero cEvent, loop_laws_toEventS xs h]
  rw [if_pos (by omega)]
theorem sem_laws_toMachine (x : DMachine) (h : wtMachine x ≤ 1048576) : S_laws_toMachine.sem [.agg (cMachine x)] = some (.agg (cMachine x), []) := by
  unfold wtMachine at h
  rw [sg_laws_toMachine, sem_go]
  simp (maxSteps := 10000000) (disch := omega) only [F_laws_toMachine, params, EG, EL, ↓reduceIte, Nat.reduceEqDiff, Nat.reduceAdd, Nat.reduceSub, Nat.reduceMul, Nat.reduceLeDiff, Nat.reduceLT, Int.reduceLT, Int.reduceLE, Int.reduceEq, Int.reduceToNat, reduceCtorEq, FB, FT, cx_laws_toMachine, cl_laws_toImage, sem_laws_toImage, cl_laws_toIntS, sem_laws_toIntS, cl_laws_toCoreS, sem_laws_toCoreS, cl_laws_toKernel, sem_laws_toKernel, cl_laws_toEventS, sem_laws_toEventS]
theorem loop_laws_eqIntS (xs : List Int) (hl : xs.length ≤ 1073741824) :
    loopV X_laws_eqIntS 0 [0, 1, 5] [(1, []), (0, [4])] B0_laws_eqIntS ⟨[(0, .tree 1 (xs.map cI)), (1, .tree 1 (xs.map cI)), (5, .int .i64 0)], []⟩ = some (.exit 0, ⟨[], []⟩) := by
  refine loop_list xs (fun _ (_ : Unit) => True) (fun i _ => ⟨[(0, .tree 1 (xs.map cI)), (1, .tree 1 (xs.map cI)), (5, .int .i64 ((i : Nat) : Int))], []⟩) (fun _ _ => some (.exit 0, ⟨[], []⟩)) ?_ ?_ () trivial
  · intro _ _
    rw [loopV_by B0_laws_eqIntS.eq_1]
    simp only [EG, EL, ↓reduceIte, Nat.reduceEqDiff, Nat.reduceAdd, Nat.reduceSub, Nat.reduceMul, Nat.reduceLeDiff, Nat.reduceLT, Int.reduceLT, Int.reduceLE, Int.reduceEq, Int.reduceToNat, reduceCtorEq, int_lt_irrefl]
  · rintro i h x rest _ rfl rfl _ ih
    have hi : (i : Int) < (xs.length : Int) := by omega
    skip
    rw [loopV_by B0_laws_eqIntS.eq_1]
    simp (maxSteps := 10000000) (disch := first | assumption | omega) only [EG, EL, ↓reduceIte, Nat.reduceEqDiff, Nat.reduceAdd, Nat.reduceSub, Nat.reduceMul, Nat.reduceLeDiff, Nat.reduceLT, Int.reduceLT, Int.reduceLE, Int.reduceEq, Int.reduceToNat, reduceCtorEq, FB, FT, hi, wrap_succ, getRow _ _ h, cx_laws_eqIntS]
    exact ih () trivial
theorem sem_laws_eqIntS (xs : List Int) (h : xs.length ≤ 1073741824) : S_laws_eqIntS.sem [.tree 1 (xs.map cI), .tree 1 (xs.map cI)] = some (.bool true, []) := by
  rw [sg_laws_eqIntS, sem_go]
  simp (maxSteps := 10000000) (disch := omega) only [F_laws_eqIntS, params, EG, EL, ↓reduceIte, Nat.reduceEqDiff, Nat.reduceAdd, Nat.reduceSub, Nat.reduceMul, Nat.reduceLeDiff, Nat.reduceLT, Int.reduceLT, Int.reduceLE, Int.reduceEq, Int.reduceToNat, reduceCtorEq, FB, FT, cx_laws_eqIntS, loop_laws_eqIntS xs h]
theorem sem_laws_eqImage (x : DImage) (h : wtImage x ≤ 1073741824) : S_laws_eqImage.sem [.agg (cImage x), .agg (cImage x)] = some (.bool true, []) := by
  unfold wtImage at h
  rw [sg_laws_eqImage, sem_go]
  simp (maxSteps := 10000000) (disch := omega) only [F_laws_eqImage, params, EG, EL, ↓reduceIte, Nat.reduceEqDiff, Nat.reduceAdd, Nat.reduceSub, Nat.reduceMul, Nat.reduceLeDiff, Nat.reduceLT, Int.reduceLT, Int.reduceLE, Int.reduceEq, Int.reduceToNat, reduceCtorEq, FB, FT, cx_laws_eqImage, cl_laws_eqIntS, sem_laws_eqIntS]
theorem sem_laws_eqCore (x : DCore) (h : wtCore x ≤ 1073741824) : S_laws_eqCore.sem [.agg (cCore x), .agg (cCore x)] = some (.bool true, []) := by
  unfold wtCore at h
  rw [sg_laws_eqCore, sem_go]
  simp (maxSteps := 10000000) (disch := omega) only [F_laws_eqCore, params, EG, EL, ↓reduceIte, Nat.reduceEqDiff, Nat.reduceAdd, Nat.reduceSub, Nat.reduceMul, Nat.reduceLeDiff, Nat.reduceLT, Int.reduceLT, Int.reduceLE, Int.reduceEq, Int.reduceToNat, reduceCtorEq, FB, FT, cx_laws_eqCore, cl_laws_eqIntS, sem_laws_eqIntS]
theorem loop_laws_eqCoreS (xs : List DCore) (hl : xs.length + tot wtCore xs ≤ 1073741824) :
    loopV X_laws_eqCoreS 0 [0, 1, 5] [(1, []), (0, [4])] B0_laws_eqCoreS ⟨[(0, .tree 3 (xs.map cCore)), (1, .tree 3 (xs.map cCore)), (5, .int .i64 0)], []⟩ = some (.exit 0, ⟨[], []⟩) := by
  refine loop_list xs (fun _ (_ : Unit) => True) (fun i _ => ⟨[(0, .tree 3 (xs.map cCore)), (1, .tree 3 (xs.map cCore)), (5, .int .i64 ((i : Nat) : Int))], []⟩) (fun _ _ => some (.exit 0, ⟨[], []⟩)) ?_ ?_ () trivial
  · intro _ _
    rw [loopV_by B0_laws_eqCoreS.eq_1]
    simp only [EG, EL, ↓reduceIte, Nat.reduceEqDiff, Nat.reduceAdd, Nat.reduceSub, Nat.reduceMul, Nat.reduceLeDiff, Nat.reduceLT, Int.reduceLT, Int.reduceLE, Int.reduceEq, Int.reduceToNat, reduceCtorEq, int_lt_irrefl]
  · rintro i h x rest _ rfl rfl _ ih
    have hi : (i : Int) < (xs.length : Int) := by omega
    have hx : wtCore xs[i] ≤ 1073741824 := by have := le_tot wtCore (List.getElem_mem h); omega
    rw [loopV_by B0_laws_eqCoreS.eq_1]
    simp (maxSteps := 10000000) (disch := first | assumption | omega) only [EG, EL, ↓reduceIte, Nat.reduceEqDiff, Nat.reduceAdd, Nat.reduceSub, Nat.reduceMul, Nat.reduceLeDiff, Nat.reduceLT, Int.reduceLT, Int.reduceLE, Int.reduceEq, Int.reduceToNat, reduceCtorEq, FB, FT, hi, wrap_succ, getRow _ _ h, cx_laws_eqCoreS, cl_laws_eqCore, sem_laws_eqCore]
    exact ih () trivial
theorem sem_laws_eqCoreS (xs : List DCore) (h : xs.length + tot wtCore xs ≤ 1073741824) : S_laws_eqCoreS.sem [.tree 3 (xs.map cCore), .tree 3 (xs.map cCore)] = some (.bool true, []) := by
  rw [sg_laws_eqCoreS, sem_go]
  simp (maxSteps := 10000000) (disch := omega) only [F_laws_eqCoreS, params, EG, EL, ↓reduceIte, Nat.reduceEqDiff, Nat.reduceAdd, Nat.reduceSub, Nat.reduceMul, Nat.reduceLeDiff, Nat.reduceLT, Int.reduceLT, Int.reduceLE, Int.reduceEq, Int.reduceToNat, reduceCtorEq, FB, FT, cx_laws_eqCoreS, cl_laws_eqCore, sem_laws_eqCore, loop_laws_eqCoreS xs h]
theorem sem_laws_eqGate (x : DGate) (h : wtGate x ≤ 1073741824) : S_laws_eqGate.sem [.agg (cGate x), .agg (cGate x)] = some (.bool true, []) := by
  unfold wtGate at h
  rw [sg_laws_eqGate, sem_go]
  simp (maxSteps := 10000000) (disch := omega) only [F_laws_eqGate, params, EG, EL, ↓reduceIte, Nat.reduceEqDiff, Nat.reduceAdd, Nat.reduceSub, Nat.reduceMul, Nat.reduceLeDiff, Nat.reduceLT, Int.reduceLT, Int.reduceLE, Int.reduceEq, Int.reduceToNat, reduceCtorEq, FB, FT, cx_laws_eqGate, cl_laws_eqIntS, sem_laws_eqIntS]
theorem loop_laws_eqGateS (xs : List DGate) (hl : xs.length + tot wtGate xs ≤ 1073741824) :
    loopV X_laws_eqGateS 0 [0, 1, 5] [(1, []), (0, [4])] B0_laws_eqGateS ⟨[(0, .tree 3 (xs.map cGate)), (1, .tree 3 (xs.map cGate)), (5, .int .i64 0)], []⟩ = some (.exit 0, ⟨[], []⟩) := by
  refine loop_list xs (fun _ (_ : Unit) => True) (fun i _ => ⟨[(0, .tree 3 (xs.map cGate)), (1, .tree 3 (xs.map cGate)), (5, .int .i64 ((i : Nat) : Int))], []⟩) (fun _ _ => some (.exit 0, ⟨[], []⟩)) ?_ ?_ () trivial
  · intro _ _
    rw [loopV_by B0_laws_eqGateS.eq_1]
    simp only [EG, EL, ↓reduceIte, Nat.reduceEqDiff, Nat.reduceAdd, Nat.reduceSub, Nat.reduceMul, Nat.reduceLeDiff, Nat.reduceLT, Int.reduceLT, Int.reduceLE, Int.reduceEq, Int.reduceToNat, reduceCtorEq, int_lt_irrefl]
  · rintro i h x rest _ rfl rfl _ ih
    have hi : (i : Int) < (xs.length : Int) := by omega
    have hx : wtGate xs[i] ≤ 1073741824 := by have := le_tot wtGate (List.getElem_mem h); omega
    rw [loopV_by B0_laws_eqGateS.eq_1]
    simp (maxSteps := 10000000) (disch := first | assumption | omega) only [EG, EL, ↓reduceIte, Nat.reduceEqDiff, Nat.reduceAdd, Nat.reduceSub, Nat.reduceMul, Nat.reduceLeDiff, Nat.reduceLT, Int.reduceLT, Int.reduceLE, Int.reduceEq, Int.reduceToNat, reduceCtorEq, FB, FT, hi, wrap_succ, getRow _ _ h, cx_laws_eqGateS, cl_laws_eqGate, sem_laws_eqGate]
    exact ih () trivial
theorem sem_laws_eqGateS (xs : List DGate) (h : xs.length + tot wtGate xs ≤ 1073741824) : S_laws_eqGateS.sem [.tree 3 (xs.map cGate), .tree 3 (xs.map cGate)] = some (.bool true, []) := by
  rw [sg_laws_eqGateS, sem_go]
  simp (maxSteps := 10000000) (disch := omega) only [F_laws_eqGateS, params, EG, EL, ↓reduceIte, Nat.reduceEqDiff, Nat.reduceAdd, Nat.reduceSub, Nat.reduceMul, Nat.reduceLeDiff, Nat.reduceLT, Int.reduceLT, Int.reduceLE, Int.reduceEq, Int.reduceToNat, reduceCtorEq, FB, FT, cx_laws_eqGateS, cl_laws_eqGate, sem_laws_eqGate, loop_laws_eqGateS xs h]
theorem loop_laws_eqBoolS (xs : List Bool) (hl : xs.length ≤ 1073741824) :
    loopV X_laws_eqBoolS 0 [0, 1, 5] [(1, []), (0, [4])] B0_laws_eqBoolS ⟨[(0, .tree 1 (xs.map cB)), (1, .tree 1 (xs.map cB)), (5, .int .i64 0)], []⟩ = some (.exit 0, ⟨[], []⟩) := by
  refine loop_list xs (fun _ (_ : Unit) => True) (fun i _ => ⟨[(0, .tree 1 (xs.map cB)), (1, .tree 1 (xs.map cB)), (5, .int .i64 ((i : Nat) : Int))], []⟩) (fun _ _ => some (.exit 0, ⟨[], []⟩)) ?_ ?_ () trivial
  · intro _ _
    rw [loopV_by B0_laws_eqBoolS.eq_1]
    simp only [EG, EL, ↓reduceIte, Nat.reduceEqDiff, Nat.reduceAdd, Nat.reduceSub, Nat.reduceMul, Nat.reduceLeDiff, Nat.reduceLT, Int.reduceLT, Int.reduceLE, Int.reduceEq, Int.reduceToNat, reduceCtorEq, int_lt_irrefl]
  · rintro i h x rest _ rfl rfl _ ih
    have hi : (i : Int) < (xs.length : Int) := by omega
    skip
    rw [loopV_by B0_laws_eqBoolS.eq_1]
    simp (maxSteps := 10000000) (disch := first | assumption | omega) only [EG, EL, ↓reduceIte, Nat.reduceEqDiff, Nat.reduceAdd, Nat.reduceSub, Nat.reduceMul, Nat.reduceLeDiff, Nat.reduceLT, Int.reduceLT, Int.reduceLE, Int.reduceEq, Int.reduceToNat, reduceCtorEq, FB, FT, hi, wrap_succ, getRow _ _ h, cx_laws_eqBoolS]
    exact ih () trivial
theorem sem_laws_eqBoolS (xs : List Bool) (h : xs.length ≤ 1073741824) : S_laws_eqBoolS.sem [.tree 1 (xs.map cB), .tree 1 (xs.map cB)] = some (.bool true, []) := by
  rw [sg_laws_eqBoolS, sem_go]
  simp (maxSteps := 10000000) (disch := omega) only [F_laws_eqBoolS, params, EG, EL, ↓reduceIte, Nat.reduceEqDiff, Nat.reduceAdd, Nat.reduceSub, Nat.reduceMul, Nat.reduceLeDiff, Nat.reduceLT, Int.reduceLT, Int.reduceLE, Int.reduceEq, Int.reduceToNat, reduceCtorEq, FB, FT, cx_laws_eqBoolS, loop_laws_eqBoolS xs h]
theorem sem_laws_eqKernel (x : DKernel) (h : wtKernel x ≤ 1073741824) : S_laws_eqKernel.sem [.agg (cKernel x), .agg (cKernel x)] = some (.bool true, []) := by
  unfold wtKernel at h
  rw [sg_laws_eqKernel, sem_go]
  simp (maxSteps := 10000000) (disch := omega) only [F_laws_eqKernel, params, EG, EL, ↓reduceIte, Nat.reduceEqDiff, Nat.reduceAdd, Nat.reduceSub, Nat.reduceMul, Nat.reduceLeDiff, Nat.reduceLT, Int.reduceLT, Int.reduceLE, Int.reduceEq, Int.reduceToNat, reduceCtorEq, FB, FT, cx_laws_eqKernel, cl_laws_eqGateS, sem_laws_eqGateS, cl_laws_eqIntS, sem_laws_eqIntS, cl_laws_eqCoreS, sem_laws_eqCoreS, cl_laws_eqBoolS, sem_laws_eqBoolS]
theorem sem_laws_eqEvent (x : DEvent) : S_laws_eqEvent.sem [.agg (cEvent x), .agg (cEvent x)] = some (.bool true, []) := by
  skip
  rw [sg_laws_eqEvent, sem_go]
  simp (maxSteps := 10000000) (disch := omega) only [F_laws_eqEvent, params, EG, EL, ↓reduceIte, Nat.reduceEqDiff, Nat.reduceAdd, Nat.reduceSub, Nat.reduceMul, Nat.reduceLeDiff, Nat.reduceLT, Int.reduceLT, Int.reduceLE, Int.reduceEq, Int.reduceToNat, reduceCtorEq, FB, FT, cx_laws_eqEvent]
theorem loop_laws_eqEventS (xs : List DEvent) (hl : xs.length ≤ 1073741824) :
    loopV X_laws_eqEventS 0 [0, 1, 5] [(1, []), (0, [4])] B0_laws_eqEventS ⟨[(0, .tree 3 (xs.map cEvent)), (1, .tree 3 (xs.map cEvent)), (5, .int .i64 0)], []⟩ = some (.exit 0, ⟨[], []⟩) := by
  refine loop_list xs (fun _ (_ : Unit) => True) (fun i _ => ⟨[(0, .tree 3 (xs.map cEvent)), (1, .tree 3 (xs.map cEvent)), (5, .int .i64 ((i : Nat) : Int))], []⟩) (fun _ _ => some (.exit 0, ⟨[], []⟩)) ?_ ?_ () trivial
  · intro _ _
    rw [loopV_by B0_laws_eqEventS.eq_1]
    simp only [EG, EL, ↓reduceIte, Nat.reduceEqDiff, Nat.reduceAdd, Nat.reduceSub, Nat.reduceMul, Nat.reduceLeDiff, Nat.reduceLT, Int.reduceLT, Int.reduceLE, Int.reduceEq, Int.reduceToNat, reduceCtorEq, int_lt_irrefl]
  · rintro i h x rest _ rfl rfl _ ih
    have hi : (i : Int) < (xs.length : Int) := by omega
    skip
    rw [loopV_by B0_laws_eqEventS.eq_1]
    simp (maxSteps := 10000000) (disch := first | assumption | omega) only [EG, EL, ↓reduceIte, Nat.reduceEqDiff, Nat.reduceAdd, Nat.reduceSub, Nat.reduceMul, Nat.reduceLeDiff, Nat.reduceLT, Int.reduceLT, Int.reduceLE, Int.reduceEq, Int.reduceToNat, reduceCtorEq, FB, FT, hi, wrap_succ, getRow _ _ h, cx_laws_eqEventS, cl_laws_eqEvent, sem_laws_eqEvent]
    exact ih () trivial
theorem sem_laws_eqEventS (xs : List DEvent) (h : xs.length ≤ 1073741824) : S_laws_eqEventS.sem [.tree 3 (xs.map cEvent), .tree 3 (xs.map cEvent)] = some (.bool true, []) := by
  rw [sg_laws_eqEventS, sem_go]
  simp (maxSteps := 10000000) (disch := omega) only [F_laws_eqEventS, params, EG, EL, ↓reduceIte, Nat.reduceEqDiff, Nat.reduceAdd, Nat.reduceSub, Nat.reduceMul, Nat.reduceLeDiff, Nat.reduceLT, Int.reduceLT, Int.reduceLE, Int.reduceEq, Int.reduceToNat, reduceCtorEq, FB, FT, cx_laws_eqEventS, cl_laws_eqEvent, sem_laws_eqEvent, loop_laws_eqEventS xs h]
theorem sem_laws_eqMachine (x : DMachine) (h : wtMachine x ≤ 1073741824) : S_laws_eqMachine.sem [.agg (cMachine x), .agg (cMachine x)] = some (.bool true, []) := by
  unfold wtMachine at h
  rw [sg_laws_eqMachine, sem_go]
  simp (maxSteps := 10000000) (disch := omega) only [F_laws_eqMachine, params, EG, EL, ↓reduceIte, Nat.reduceEqDiff, Nat.reduceAdd, Nat.reduceSub, Nat.reduceMul, Nat.reduceLeDiff, Nat.reduceLT, Int.reduceLT, Int.reduceLE, Int.reduceEq, Int.reduceToNat, reduceCtorEq, FB, FT, cx_laws_eqMachine, cl_laws_eqImage, sem_laws_eqImage, cl_laws_eqIntS, sem_laws_eqIntS, cl_laws_eqCoreS, sem_laws_eqCoreS, cl_laws_eqKernel, sem_laws_eqKernel, cl_laws_eqEventS, sem_laws_eqEventS]
/-! gates -/
/-- In line, each in 0 .. 3 and none of those seen. -/
def freshB (seen : List Int) : List Int → Bool
  | [] => true
  | x :: xs => decide (0 ≤ x ∧ x ≤ 3) && (decide (x ∉ seen) && freshB (seen ++ [x]) xs)
def qfreshB (seen : List Int) : List Int → Bool
  | [] => true
  | x :: xs => if x = -1 then qfreshB (seen ++ [x]) xs else decide (0 ≤ x ∧ x ≤ 3) && (decide (x ∉ seen) && qfreshB (seen ++ [x]) xs)
def somebody (xs : List Int) : List Int := xs.filter (fun x => decide (x ≠ -1))
theorem freshB_app : ∀ (xs ys seen : List Int), freshB seen (xs ++ ys) = (freshB seen xs && freshB (seen ++ xs) ys)
  | [], ys, seen => by simp [freshB]
  | x :: xs, ys, seen => by
    simp only [List.cons_append, freshB, freshB_app xs ys (seen ++ [x]), List.append_assoc, List.singleton_append, List.nil_append, Bool.and_assoc]
theorem freshB_mem : ∀ (xs seen : List Int), freshB seen xs = true → ∀ x ∈ xs, 0 ≤ x ∧ x ≤ 3
  | [], _, _, x, hx => by simp at hx
  | y :: ys, seen, h, x, hx => by
    unfold freshB at h
    simp only [Bool.and_eq_true, decide_eq_true_eq] at h
    rcases List.mem_cons.1 hx with rfl | hx
    · exact h.1
    · exact freshB_mem ys _ h.2.2 x hx
theorem qfreshB_eq : ∀ (xs seen : List Int), qfreshB seen xs = freshB (somebody seen) (somebody xs)
  | [], seen => rfl
  | x :: xs, seen => by
    unfold qfreshB
    rw [qfreshB_eq xs (seen ++ [x])]
    by_cases h : x = -1
    · subst h
      simp [somebody]
    · have hm : x ∈ somebody seen ↔ x ∈ seen := by simp [somebody, h]
      rw [if_neg h]
      have e : somebody (x :: xs) = x :: somebody xs := by simp [somebody, h]
      rw [e]
      have e2 : somebody (seen ++ [x]) = somebody seen ++ [x] := by simp [somebody, h]
      rw [e2]
      conv => rhs; unfold freshB
      simp only [hm]
/-- A right gate. -/
def gateOk (owner : Int) (waits queues : List Int) : Bool :=
  decide (queues.length ≤ 2) && (freshB [] ((if owner = -1 then [] else [owner]) ++ waits ++ somebody queues) && decide (owner ≠ -1 ∨ waits.length = 0))
theorem gateOk_low {owner : Int} {waits queues : List Int} (h : ¬ (-1 ≤ owner ∧ owner ≤ 3)) : gateOk owner waits queues = false := by
  unfold gateOk
  rw [if_neg (by omega)]
  simp only [List.cons_append, List.nil_append]
  unfold freshB
  have : ¬ (0 ≤ owner ∧ owner ≤ 3) := by omega
  simp [this]
def inGate (owner : Int) (waits queues : List Int) : List Int := (if owner = -1 then [] else [owner]) ++ waits ++ somebody queues
theorem inGate_len (owner : Int) (waits queues : List Int) : (inGate owner waits queues).length ≤ 1 + waits.length + queues.length := by
  unfold inGate somebody
  have := List.length_filter_le (fun x : Int => decide (x ≠ -1)) queues
  rw [List.length_append, List.length_append]
  split <;> simp only [List.length_nil, List.length_cons] <;> omega
/-- How the reference tells a right gate. -/
theorem gateOk_spec (owner : Int) (waits queues : List Int) : gateOk owner waits queues = (decide (-1 ≤ owner ∧ owner ≤ 3) && (decide (queues.length ≤ 2) && (!(decide (owner < 0) && decide (0 < waits.length)) && (freshB (if 0 ≤ owner then [owner] else []) waits && qfreshB ((if 0 ≤ owner then [owner] else []) ++ waits) queues)))) := by
  by_cases h1 : -1 ≤ owner ∧ owner ≤ 3
  · by_cases h3 : owner < 0
    · have ho : owner = -1 := by omega
      subst ho
      by_cases h4 : waits = []
      · subst h4
        rw [qfreshB_eq]
        simp [gateOk, freshB, somebody]
      · have : ¬ waits.length = 0 := by simpa using h4
        simp [gateOk, h4, List.length_pos_iff]
    · have ho : ¬ owner = -1 := by omega
      have ho2 : 0 ≤ owner ∧ owner ≤ 3 := by omega
      rw [if_pos ho2.1, qfreshB_eq]
      unfold gateOk
      rw [if_neg ho, freshB_app ([owner] ++ waits), freshB_app [owner]]
      have e1 : freshB [] [owner] = true := by simp [freshB, ho2]
      rw [e1]
      simp only [h1, h3, and_self, decide_true, decide_false, Bool.true_and, List.nil_append, ho, not_false_eq_true, true_or, ne_eq, Bool.and_true, Bool.false_and, Bool.not_false]
      cases hf : freshB [owner] waits with
      | false => simp
      | true =>
        have hm := freshB_mem _ _ hf
        have e2 : somebody ([owner] ++ waits) = [owner] ++ waits := by
          unfold somebody
          rw [List.filter_eq_self]
          intro x hx
          rcases List.mem_append.1 hx with hx | hx
          · have := List.mem_singleton.1 hx
            exact decide_eq_true (by omega)
          · have := hm x hx
            exact decide_eq_true (by omega)
        rw [e2]
  · rw [gateOk_low h1]
    simp [h1]
theorem map_cI_snoc {xs : List Int} {y : Int} : xs.map cI ++ [[.int .i64 y]] = (xs ++ [y]).map cI := by simp
theorem map_cI_app {xs ys : List Int} : xs.map cI ++ ys.map cI = (xs ++ ys).map cI := by simp
theorem map_cI_one {y : Int} : [[AV.int .i64 y]] = [y].map cI := rfl
/-- A loop that goes on, or gives false. -/
def okR (b : Bool) (e : Nat) (s : St) (t : Nat) : Option (Ex × St) := if b = true then some (.exit e, s) else some (.ret, ⟨[(t, .bool false)], []⟩)
theorem okR_true {e t : Nat} {s : St} : okR true e s t = some (.exit e, s) := rfl
theorem okR_false {e t : Nat} {s : St} : okR false e s t = some (.ret, ⟨[(t, .bool false)], []⟩) := rfl
theorem goE_okR {ctx : Ctx} {base : Nat} {b : Bool} {e t : Nat} {s : St} {K : List Fr} : goE ctx base (okR b e s t) K = if b = true then unw ctx base K (.exit e) s else unw ctx base K .ret ⟨[(t, .bool false)], []⟩ := by
  unfold okR; split <;> rfl
theorem mem_fIx {xs : List Int} {x : Int} : ∀ {i : Nat}, (0 ≤ fIx (fun y => decide (x = y)) xs i) = (x ∈ xs) := by
  induction xs with
  | nil => intro i; simp [fIx]
  | cons y ys ih =>
    intro i
    by_cases h : x = y
    · subst h; simp [fIx]
    · simp only [fIx, h, decide_false, Bool.false_eq_true, if_false, ih, List.mem_cons, false_or]
/-- Who is ready, from this place on. -/
def ableF (stopped : Bool) : List DActor → Nat → List Int
  | [], _ => []
  | y :: ys, i => if (y.Ready && !stopped) = true then (i : Int) :: ableF stopped ys (i + 1) else ableF stopped ys (i + 1)
theorem ableF_true : ∀ {xs : List DActor} {i : Nat}, ableF true xs i = []
  | [], _ => rfl
  | x :: xs, i => by simp [ableF, ableF_true]
theorem ableF_len {b : Bool} : ∀ {xs : List DActor} {i : Nat}, (ableF b xs i).length ≤ xs.length
  | [], _ => Nat.le_refl _
  | x :: xs, i => by
    have := @ableF_len b xs (i + 1)
    simp only [ableF, List.length_cons]
    split <;> (try simp only [List.length_cons]) <;> omega
theorem fIx_any {α : Type} {p : α → Bool} : ∀ {xs : List α} {i : Nat}, (0 ≤ fIx p xs i) = (xs.any p = true)
  | [], i => by simp [fIx]
  | x :: xs, i => by
    by_cases h : p x = true
    · simp only [fIx, h, if_true, List.any_cons, Bool.true_or]; simp
    · simp only [fIx, if_neg h, List.any_cons, Bool.eq_false_iff.2 h, Bool.false_or]
      exact fIx_any
theorem sem_impl_Idle_1 (c : DCore) : S_impl_Idle_1.sem [.agg (cCore c)] = some (.bool (decide (0 ≤ c.Process)), []) := by
  rw [sg_impl_Idle_1, sem_go]
  simp (disch := first | assumption | omega) only [cCore, F_impl_Idle_1, params, EG, EL, ↓reduceIte, Nat.reduceEqDiff, Nat.reduceAdd, Nat.reduceSub, Nat.reduceMul, Nat.reduceLeDiff, Nat.reduceLT, Int.reduceLT, Int.reduceLE, Int.reduceEq, Int.reduceToNat, reduceCtorEq, FB, cx_impl_Idle_1]
theorem sem_ix_impl_Idle_1 (xs : List DCore) (hl : xs.length ≤ 140737488351232) : S_slices_IndexFunc_impl_Core_impl_Core.sem [.tree 3 (xs.map cCore), .fn 64 []] = some (.int .i64 (fIx (fun c : DCore => decide (0 ≤ c.Process)) xs 0), []) := by
  have loop : loopV X_slices_IndexFunc_impl_Core_impl_Core 0 [0, 1, 7, 8] [(1, []), (0, [4])] B0_slices_IndexFunc_impl_Core_impl_Core ⟨[(0, .tree 3 (xs.map cCore)), (1, .fn 64 []), (7, .int .i64 xs.length), (8, .int .i64 0)], []⟩ = fixR 4 (fIx (fun c : DCore => decide (0 ≤ c.Process)) xs 0) := by
    refine loop_list xs (fun i a => a = i) (fun i a => ⟨[(0, .tree 3 (xs.map cCore)), (1, .fn 64 []), (7, .int .i64 xs.length), (8, .int .i64 (i : Int))], []⟩) (fun rest a => fixR 4 (fIx (fun c : DCore => decide (0 ≤ c.Process)) rest a)) ?_ ?_ 0 rfl
    · rintro a rfl
      rw [loopV_by B0_slices_IndexFunc_impl_Core_impl_Core.eq_1]
      simp only [EG, EL, ↓reduceIte, Nat.reduceEqDiff, Nat.reduceAdd, Nat.reduceSub, Nat.reduceMul, Nat.reduceLeDiff, Nat.reduceLT, Int.reduceLT, Int.reduceLE, Int.reduceEq, Int.reduceToNat, reduceCtorEq, FB, int_lt_irrefl]
      exact fixR_nil
    · rintro i h x rest a rfl rfl rfl ih
      have hi : (a : Int) < (xs.length : Int) := by omega
      rw [loopV_by B0_slices_IndexFunc_impl_Core_impl_Core.eq_1]
      have i1 := sem_impl_Idle_1 xs[a]
      simp only [cCore] at i1
      by_cases h1 : 0 ≤ xs[a].Process
      all_goals simp only [h1, decide_true, decide_false, Bool.not_true, Bool.not_false] at i1
      all_goals simp (disch := first | assumption | omega) only [EG, EL, ↓reduceIte, Nat.reduceEqDiff, Nat.reduceAdd, Nat.reduceSub, Nat.reduceMul, Nat.reduceLeDiff, Nat.reduceLT, Int.reduceLT, Int.reduceLE, Int.reduceEq, Int.reduceToNat, reduceCtorEq, FB, hi, wrap_succ, getRow _ _ h, ih _ rfl, cx_slices_IndexFunc_impl_Core_impl_Core, cl_impl_Idle_1, i1, h1, decide_true, decide_false, Bool.not_true, Bool.not_false]
      all_goals first | exact fixR_yes (by simp [h1]) | exact fixR_no (by simp [h1])
  rw [sg_slices_IndexFunc_impl_Core_impl_Core, sem_go]
  simp (disch := first | assumption | omega) only [F_slices_IndexFunc_impl_Core_impl_Core, params, EG, EL, ↓reduceIte, Nat.reduceEqDiff, Nat.reduceAdd, Nat.reduceSub, Nat.reduceMul, Nat.reduceLeDiff, Nat.reduceLT, Int.reduceLT, Int.reduceLE, Int.reduceEq, Int.reduceToNat, reduceCtorEq, FB, loop, goE_fixR]
  rcases @fIx_ge _ (fun c : DCore => decide (0 ≤ c.Process)) xs 0 with h | h
  · simp [h]
  · rw [if_neg (by omega)]
theorem sem_ct_impl_Idle_1 (xs : List DCore) (hl : xs.length ≤ 140737488351232) : S_slices_ContainsFunc_impl_Core_impl_Core.sem [.tree 3 (xs.map cCore), .fn 64 []] = some (.bool (xs.any (fun c : DCore => decide (0 ≤ c.Process))), []) := by
  rw [sg_slices_ContainsFunc_impl_Core_impl_Core, sem_go]
  simp (disch := first | assumption | omega) only [F_slices_ContainsFunc_impl_Core_impl_Core, params, EG, EL, ↓reduceIte, Nat.reduceEqDiff, Nat.reduceAdd, Nat.reduceSub, Nat.reduceMul, Nat.reduceLeDiff, Nat.reduceLT, Int.reduceLT, Int.reduceLE, Int.reduceEq, Int.reduceToNat, reduceCtorEq, FB, cx_slices_ContainsFunc_impl_Core_impl_Core, cl_slices_IndexFunc_impl_Core_impl_Core, sem_ix_impl_Idle_1, fIx_any, Bool.decide_eq_true]
def idleM (x : DMachine) : Bool := x.Stopped || (decide (x.Kernel.Ready.length = 0) && !(x.Cores.any (fun c : DCore => decide (0 ≤ c.Process))))
def verdictM (x : DMachine) : Int := if x.Stopped = true then 3 else if x.Kernel.Over.all id = true then 1 else if idleM x = true then 2 else 0
def verdictO (x : DModel) : Int := if x.Stopped = true then 3 else if x.Actors.all (fun a => a.Over) = true then 1 else if (ableF x.Stopped x.Actors 0).length = 0 then 2 else 0
theorem sem_spec_Idle (x : DMachine) (h : x.Cores.length ≤ 140737488351232) : S_spec_Idle.sem [.agg (cMachine x)] = some (.bool (idleM x), []) := by
  have loop : loopV X_spec_Idle 0 [1, 3] [(1, [1]), (0, [2])] B0_spec_Idle ⟨[(1, .ptr ⟨0, none, 0⟩ 12 0 0), (3, .int .i64 0)], [some ⟨true, 0, 12, [cMachine x]⟩]⟩ = okR (x.Stopped || !(x.Cores.any (fun c : DCore => decide (0 ≤ c.Process)))) 0 ⟨[(1, .ptr ⟨0, none, 0⟩ 12 0 0)], [some ⟨true, 0, 12, [cMachine x]⟩]⟩ 2 := by
    refine loop_list x.Cores (fun _ (_ : Unit) => True) (fun i _ => ⟨[(1, .ptr ⟨0, none, 0⟩ 12 0 0), (3, .int .i64 ((i : Nat) : Int))], [some ⟨true, 0, 12, [cMachine x]⟩]⟩) (fun rest _ => okR (x.Stopped || !(rest.any (fun c : DCore => decide (0 ≤ c.Process)))) 0 ⟨[(1, .ptr ⟨0, none, 0⟩ 12 0 0)], [some ⟨true, 0, 12, [cMachine x]⟩]⟩ 2) ?_ ?_ () trivial
    · intro _ _
      rw [loopV_by B0_spec_Idle.eq_1]
      simp only [EG, EL, ↓reduceIte, Nat.reduceEqDiff, Nat.reduceAdd, Nat.reduceSub, Nat.reduceMul, Nat.reduceLeDiff, Nat.reduceLT, Int.reduceLT, Int.reduceLE, Int.reduceEq, Int.reduceToNat, reduceCtorEq, FB, int_lt_irrefl, List.any_nil, okR_true]
    · rintro i hi0 y rest _ rfl rfl _ ih
      have i1 := ih () trivial
      have hi : (i : Int) < (x.Cores.length : Int) := by omega
      rw [loopV_by B0_spec_Idle.eq_1]
      cases hs : x.Stopped <;> by_cases h1 : 0 ≤ x.Cores[i].Process
      all_goals simp only [cMachine, hs, EG, EL, ↓reduceIte, Nat.reduceEqDiff, Nat.reduceAdd, Nat.reduceSub, Nat.reduceMul, Nat.reduceLeDiff, Nat.reduceLT, Int.reduceLT, Int.reduceLE, Int.reduceEq, Int.reduceToNat, reduceCtorEq, FB] at i1
      all_goals simp (disch := first | assumption | omega) only [cMachine, EG, EL, ↓reduceIte, Nat.reduceEqDiff, Nat.reduceAdd, Nat.reduceSub, Nat.reduceMul, Nat.reduceLeDiff, Nat.reduceLT, Int.reduceLT, Int.reduceLE, Int.reduceEq, Int.reduceToNat, reduceCtorEq, FB, hi, wrap_succ, getRow _ _ hi0, hs, h1, i1, List.any_cons, okR_false, decide_true, decide_false]
  rw [sg_spec_Idle, sem_go]
  cases hs : x.Stopped <;> cases ha : x.Cores.any (fun c : DCore => decide (0 ≤ c.Process))
  all_goals simp only [hs, ha, EG, EL, ↓reduceIte, Nat.reduceEqDiff, Nat.reduceAdd, Nat.reduceSub, Nat.reduceMul, Nat.reduceLeDiff, Nat.reduceLT, Int.reduceLT, Int.reduceLE, Int.reduceEq, Int.reduceToNat, reduceCtorEq, FB, okR_true, okR_false, cMachine] at loop
  all_goals simp (disch := first | assumption | omega) only [cMachine, F_spec_Idle, params, EG, EL, ↓reduceIte, Nat.reduceEqDiff, Nat.reduceAdd, Nat.reduceSub, Nat.reduceMul, Nat.reduceLeDiff, Nat.reduceLT, Int.reduceLT, Int.reduceLE, Int.reduceEq, Int.reduceToNat, reduceCtorEq, FB, hs, ha, loop, idleM]
  by_cases hr : x.Kernel.Ready.length = 0
  · simp [hr]
  · have hr' : ¬ (x.Kernel.Ready.length : Int) = 0 := by omega
    simp only [hr, hr', decide_false]
theorem sem_impl_Idle (x : DMachine) (h : x.Cores.length ≤ 140737488351232) : S_impl_Idle.sem [.agg (cMachine x)] = some (.bool (idleM x), []) := by
  rw [sg_impl_Idle, sem_go]
  by_cases hr : x.Kernel.Ready.length = 0
  · have hr' : (x.Kernel.Ready.length : Int) = 0 := by omega
    cases hs : x.Stopped <;> cases ha : x.Cores.any (fun c : DCore => decide (0 ≤ c.Process)) <;> simp (disch := first | assumption | omega) only [F_impl_Idle, params, EG, EL, ↓reduceIte, Nat.reduceEqDiff, Nat.reduceAdd, Nat.reduceSub, Nat.reduceMul, Nat.reduceLeDiff, Nat.reduceLT, Int.reduceLT, Int.reduceLE, Int.reduceEq, Int.reduceToNat, reduceCtorEq, FB, cx_impl_Idle, hs, ha, hr, hr', idleM, cl_slices_ContainsFunc_impl_Core_impl_Core, sem_ct_impl_Idle_1, decide_true]
  · have hr' : ¬ (x.Kernel.Ready.length : Int) = 0 := by omega
    cases hs : x.Stopped <;> simp (disch := first | assumption | omega) only [F_impl_Idle, params, EG, EL, ↓reduceIte, Nat.reduceEqDiff, Nat.reduceAdd, Nat.reduceSub, Nat.reduceMul, Nat.reduceLeDiff, Nat.reduceLT, Int.reduceLT, Int.reduceLE, Int.reduceEq, Int.reduceToNat, reduceCtorEq, FB, cx_impl_Idle, hs, hr, hr', idleM, decide_false]
theorem sem_slices_Index_bool_bool (xs : List Bool) (x : Bool) (hl : xs.length ≤ 140737488351232) : S_slices_Index_bool_bool.sem [.tree 1 (xs.map cB), .bool x] = some (.int .i64 (fIx (fun y => decide (x = y)) xs 0), []) := by
  have loop : loopV X_slices_Index_bool_bool 0 [0, 1, 7, 8] [(1, []), (0, [4])] B0_slices_Index_bool_bool ⟨[(0, .tree 1 (xs.map cB)), (1, .bool x), (7, .int .i64 xs.length), (8, .int .i64 0)], []⟩ = fixR 4 (fIx (fun y => decide (x = y)) xs 0) := by
    refine loop_list xs (fun i a => a = i) (fun i a => ⟨[(0, .tree 1 (xs.map cB)), (1, .bool x), (7, .int .i64 xs.length), (8, .int .i64 (i : Int))], []⟩) (fun rest a => fixR 4 (fIx (fun y => decide (x = y)) rest a)) ?_ ?_ 0 rfl
    · rintro a rfl
      rw [loopV_by B0_slices_Index_bool_bool.eq_1]
      simp only [EG, EL, ↓reduceIte, Nat.reduceEqDiff, Nat.reduceAdd, Nat.reduceSub, Nat.reduceMul, Nat.reduceLeDiff, Nat.reduceLT, Int.reduceLT, Int.reduceLE, Int.reduceEq, Int.reduceToNat, reduceCtorEq, FB, int_lt_irrefl]
      exact fixR_nil
    · rintro i h y rest a rfl rfl rfl ih
      have hi : (a : Int) < (xs.length : Int) := by omega
      rw [loopV_by B0_slices_Index_bool_bool.eq_1]
      simp (disch := first | assumption | omega) only [EG, EL, ↓reduceIte, Nat.reduceEqDiff, Nat.reduceAdd, Nat.reduceSub, Nat.reduceMul, Nat.reduceLeDiff, Nat.reduceLT, Int.reduceLT, Int.reduceLE, Int.reduceEq, Int.reduceToNat, reduceCtorEq, FB, hi, wrap_succ, getRow _ _ h, ih _ rfl]
      by_cases h1 : x = xs[a] <;> simp only [h1, if_true, if_false]
      · exact fixR_yes (by simp)
      · exact fixR_no (by simp [h1])
  rw [sg_slices_Index_bool_bool, sem_go]
  simp (disch := first | assumption | omega) only [F_slices_Index_bool_bool, params, EG, EL, ↓reduceIte, Nat.reduceEqDiff, Nat.reduceAdd, Nat.reduceSub, Nat.reduceMul, Nat.reduceLeDiff, Nat.reduceLT, Int.reduceLT, Int.reduceLE, Int.reduceEq, Int.reduceToNat, reduceCtorEq, FB, loop, goE_fixR]
  rcases @fIx_ge _ (fun y => decide (x = y)) xs 0 with h | h
  · simp [h]
  · rw [if_neg (by omega)]
theorem sem_slices_Contains_bool_bool (xs : List Bool) (x : Bool) (hl : xs.length ≤ 140737488351232) : S_slices_Contains_bool_bool.sem [.tree 1 (xs.map cB), .bool x] = some (.bool (xs.any (fun y => decide (x = y))), []) := by
  rw [sg_slices_Contains_bool_bool, sem_go]
  simp (disch := first | assumption | omega) only [F_slices_Contains_bool_bool, params, EG, EL, ↓reduceIte, Nat.reduceEqDiff, Nat.reduceAdd, Nat.reduceSub, Nat.reduceMul, Nat.reduceLeDiff, Nat.reduceLT, Int.reduceLT, Int.reduceLE, Int.reduceEq, Int.reduceToNat, reduceCtorEq, FB, cx_slices_Contains_bool_bool, cl_slices_Index_bool_bool, sem_slices_Index_bool_bool, fIx_any, Bool.decide_eq_true]
theorem any_false {xs : List Bool} : (xs.any (fun y => decide (false = y))) = !(xs.all id) := by
  induction xs with
  | nil => rfl
  | cons y ys ih => cases y <;> simp only [List.any_cons, List.all_cons, ih, id] <;> simp
theorem any_over {xs : List DActor} : (xs.any (fun c : DActor => !c.Over)) = !(xs.all (fun a => a.Over)) := by
  induction xs with
  | nil => rfl
  | cons y ys ih => cases h : y.Over <;> simp [ih, h]
theorem sem_spec_MachineVerdict (x : DMachine) (h : x.Cores.length ≤ 140737488351232) (ho : x.Kernel.Over.length ≤ 140737488351232) : S_spec_MachineVerdict.sem [.agg (cMachine x)] = some (.int .i64 (verdictM x), []) := by
  have loop : loopV X_spec_MachineVerdict 0 [1, 3, 4] [(1, [1, 3])] B0_spec_MachineVerdict ⟨[(1, .ptr ⟨0, none, 0⟩ 12 0 0), (3, .bool true), (4, .int .i64 0)], [some ⟨true, 0, 12, [cMachine x]⟩]⟩ = some (.exit 0, ⟨[(1, .ptr ⟨0, none, 0⟩ 12 0 0), (3, .bool (true && x.Kernel.Over.all id))], [some ⟨true, 0, 12, [cMachine x]⟩]⟩) := by
    refine loop_list x.Kernel.Over (fun _ (_ : Bool) => True) (fun i b => ⟨[(1, .ptr ⟨0, none, 0⟩ 12 0 0), (3, .bool b), (4, .int .i64 ((i : Nat) : Int))], [some ⟨true, 0, 12, [cMachine x]⟩]⟩) (fun rest b => some (.exit 0, ⟨[(1, .ptr ⟨0, none, 0⟩ 12 0 0), (3, .bool (b && rest.all id))], [some ⟨true, 0, 12, [cMachine x]⟩]⟩)) ?_ ?_ true trivial
    · intro b _
      rw [loopV_by B0_spec_MachineVerdict.eq_1]
      simp only [EG, EL, ↓reduceIte, Nat.reduceEqDiff, Nat.reduceAdd, Nat.reduceSub, Nat.reduceMul, Nat.reduceLeDiff, Nat.reduceLT, Int.reduceLT, Int.reduceLE, Int.reduceEq, Int.reduceToNat, reduceCtorEq, FB, int_lt_irrefl, List.all_nil]
    · rintro i hi0 y rest b rfl rfl _ ih
      have hi : (i : Int) < (x.Kernel.Over.length : Int) := by omega
      have i1 := ih (b && id x.Kernel.Over[i]) trivial
      rw [loopV_by B0_spec_MachineVerdict.eq_1]
      cases b
      all_goals try simp only [EG, EL, ↓reduceIte, Nat.reduceEqDiff, Nat.reduceAdd, Nat.reduceSub, Nat.reduceMul, Nat.reduceLeDiff, Nat.reduceLT, Int.reduceLT, Int.reduceLE, Int.reduceEq, Int.reduceToNat, reduceCtorEq, FB, id] at i1
      all_goals simp (disch := first | assumption | omega) only [EG, EL, ↓reduceIte, Nat.reduceEqDiff, Nat.reduceAdd, Nat.reduceSub, Nat.reduceMul, Nat.reduceLeDiff, Nat.reduceLT, Int.reduceLT, Int.reduceLE, Int.reduceEq, Int.reduceToNat, reduceCtorEq, FB, hi, wrap_succ, getRow _ _ hi0, i1, List.all_cons, id, Bool.and_assoc]
  rw [sg_spec_MachineVerdict, sem_go]
  cases hs : x.Stopped
  · cases ha : x.Kernel.Over.all id
    · cases hi : idleM x
      all_goals simp only [cMachine, hs, ha, EG, EL, ↓reduceIte, Nat.reduceEqDiff, Nat.reduceAdd, Nat.reduceSub, Nat.reduceMul, Nat.reduceLeDiff, Nat.reduceLT, Int.reduceLT, Int.reduceLE, Int.reduceEq, Int.reduceToNat, reduceCtorEq, FB] at loop
      all_goals have hidle := sem_spec_Idle x h
      all_goals simp only [cMachine, hs, hi] at hidle
      all_goals simp (disch := first | assumption | omega) only [cMachine, F_spec_MachineVerdict, params, EG, EL, ↓reduceIte, Nat.reduceEqDiff, Nat.reduceAdd, Nat.reduceSub, Nat.reduceMul, Nat.reduceLeDiff, Nat.reduceLT, Int.reduceLT, Int.reduceLE, Int.reduceEq, Int.reduceToNat, reduceCtorEq, FB, cx_spec_MachineVerdict, hs, ha, loop, verdictM, cl_spec_Idle, hidle, hi]
    · simp only [cMachine, hs, ha, EG, EL, ↓reduceIte, Nat.reduceEqDiff, Nat.reduceAdd, Nat.reduceSub, Nat.reduceMul, Nat.reduceLeDiff, Nat.reduceLT, Int.reduceLT, Int.reduceLE, Int.reduceEq, Int.reduceToNat, reduceCtorEq, FB] at loop
      simp (disch := first | assumption | omega) only [cMachine, F_spec_MachineVerdict, params, EG, EL, ↓reduceIte, Nat.reduceEqDiff, Nat.reduceAdd, Nat.reduceSub, Nat.reduceMul, Nat.reduceLeDiff, Nat.reduceLT, Int.reduceLT, Int.reduceLE, Int.reduceEq, Int.reduceToNat, reduceCtorEq, FB, cx_spec_MachineVerdict, hs, ha, loop, verdictM]
  · simp (disch := first | assumption | omega) only [F_spec_MachineVerdict, params, EG, EL, ↓reduceIte, Nat.reduceEqDiff, Nat.reduceAdd, Nat.reduceSub, Nat.reduceMul, Nat.reduceLeDiff, Nat.reduceLT, Int.reduceLT, Int.reduceLE, Int.reduceEq, Int.reduceToNat, reduceCtorEq, FB, hs, verdictM]
theorem sem_impl_MachineVerdict (x : DMachine) (h : x.Cores.length ≤ 140737488351232) (ho : x.Kernel.Over.length ≤ 140737488351232) : S_impl_MachineVerdict.sem [.agg (cMachine x)] = some (.int .i64 (verdictM x), []) := by
  rw [sg_impl_MachineVerdict, sem_go]
  cases hs : x.Stopped
  · cases ha : x.Kernel.Over.all id
    · cases hi : idleM x
      all_goals have hidle := sem_impl_Idle x h
      all_goals simp only [cMachine, hs, hi] at hidle
      all_goals simp (disch := first | assumption | omega) only [cMachine, F_impl_MachineVerdict, params, EG, EL, ↓reduceIte, Nat.reduceEqDiff, Nat.reduceAdd, Nat.reduceSub, Nat.reduceMul, Nat.reduceLeDiff, Nat.reduceLT, Int.reduceLT, Int.reduceLE, Int.reduceEq, Int.reduceToNat, reduceCtorEq, FB, cx_impl_MachineVerdict, hs, ha, verdictM, cl_slices_Contains_bool_bool, sem_slices_Contains_bool_bool, any_false, cl_impl_Idle, hidle, hi]
    · simp (disch := first | assumption | omega) only [F_impl_MachineVerdict, params, EG, EL, ↓reduceIte, Nat.reduceEqDiff, Nat.reduceAdd, Nat.reduceSub, Nat.reduceMul, Nat.reduceLeDiff, Nat.reduceLT, Int.reduceLT, Int.reduceLE, Int.reduceEq, Int.reduceToNat, reduceCtorEq, FB, cx_impl_MachineVerdict, hs, ha, verdictM, cl_slices_Contains_bool_bool, sem_slices_Contains_bool_bool, any_false]
  · simp (disch := first | assumption | omega) only [F_impl_MachineVerdict, params, EG, EL, ↓reduceIte, Nat.reduceEqDiff, Nat.reduceAdd, Nat.reduceSub, Nat.reduceMul, Nat.reduceLeDiff, Nat.reduceLT, Int.reduceLT, Int.reduceLE, Int.reduceEq, Int.reduceToNat, reduceCtorEq, FB, hs, verdictM]
def gateNew (n : Int) : DGate := ⟨-1, [], if 0 < n then (if 1 < n then [-1, -1] else [-1]) else []⟩
theorem wrap_one : IntKind.wrap .i64 (0 + 1) = 1 := by decide
theorem wrap_two : IntKind.wrap .i64 (1 + 1) = 2 := by decide
theorem min2_0 {n : Int} : (0 < (if 2 < n then 2 else n)) = (0 < n) := by split <;> simp <;> omega
theorem min2_1 {n : Int} : (1 < (if 2 < n then 2 else n)) = (1 < n) := by split <;> simp <;> omega
theorem min2_2 {n : Int} : (2 < (if 2 < n then 2 else n)) = False := by split <;> simp <;> omega
def procCore (x : DImage) (i : Nat) : DCore := ⟨List.replicate 8 0, if h : i < x.Starts.length then x.Starts[i] else 0, i⟩
def coresF (x : DImage) : List DProcess → Nat → List DCore
  | [], _ => []
  | _ :: r, i => procCore x i :: coresF x r (i + 1)
def readyF : List DProcess → Nat → List Int
  | [], _ => []
  | _ :: r, i => (i : Int) :: readyF r (i + 1)
def overF : List DProcess → List Bool
  | [] => []
  | _ :: r => false :: overF r
def monG (m : DMonitor) : DGate := gateNew m.Queues.length
def kernelNew (p : DProgram) (x : DImage) : DKernel := ⟨p.Monitors.map monG, readyF p.Processes 0, coresF x p.Processes 0, overF p.Processes⟩
theorem gateNew_len {n : Int} : (gateNew n).Waits.length + (gateNew n).Queues.length ≤ 2 := by
  unfold gateNew; split <;> (try split) <;> simp
theorem tot_monG : ∀ {ms : List DMonitor}, tot wtGate (ms.map monG) ≤ 2 * ms.length
  | [] => Nat.le_refl _
  | m :: ms => by
    have := @tot_monG ms
    have h := @gateNew_len (m.Queues.length : Int)
    simp only [List.map_cons, tot, List.length_cons, monG, wtGate] at *
    omega
theorem coresF_tot {x : DImage} : ∀ {ps : List DProcess} {i : Nat}, tot wtCore (coresF x ps i) = 8 * ps.length ∧ (coresF x ps i).length = ps.length ∧ (readyF ps i).length = ps.length ∧ (overF ps).length = ps.length
  | [], _ => ⟨rfl, rfl, rfl, rfl⟩
  | p :: ps, i => by
    obtain ⟨a, b, c, d⟩ := @coresF_tot x ps (i + 1)
    simp only [coresF, readyF, overF, tot, List.length_cons, wtCore, procCore, List.length_replicate] at *
    omega
set_option maxHeartbeats 4000000 in
theorem law_FnExactMachineVerdict (x : DMachine) (g_x : gdMachine x) : tru F_laws_FnExactMachineVerdict.res (go X_laws_FnExactMachineVerdict 0 [.c F_laws_FnExactMachineVerdict.body] ⟨params 0 [.agg (cMachine x)], []⟩) := by
  rcases lft_or (1048576) (wtMachine x) with ⟨e0, f0⟩ | ⟨e0, f0⟩
  · simp (maxSteps := 10000000) (disch := first | assumption | omega) only [F_laws_FnExactMachineVerdict, params, EG, EL, ↓reduceIte, Nat.reduceEqDiff, Nat.reduceAdd, Nat.reduceSub, Nat.reduceMul, Nat.reduceLeDiff, Nat.reduceLT, Int.reduceLT, Int.reduceLE, Int.reduceEq, Int.reduceToNat, reduceCtorEq, ED, FB, FT, tru_ret, tru_ite, cx_laws_FnExactMachineVerdict, e0, neg1_lt, cl_laws_szMachine, sem_laws_szMachine, cl_laws_toMachine, sem_laws_toMachine, cl_spec_MachineVerdict, sem_spec_MachineVerdict, cl_impl_MachineVerdict, sem_impl_MachineVerdict, cl_laws_eqMachine, sem_laws_eqMachine]
  have c0 : ¬ 1048576 - ((wtMachine x : Nat) : Int) < 0 := by omega
  have w0 := f0
  simp only [wtMachine, wtImage, wtKernel] at w0
  have q0_0 := tot_ct1 x.Image.Text
  have q0_1 := tot_ct1 x.Image.Starts
  have q0_2 := tot_ct1 x.Mem
  have q0_3 := tctle_Core x.Cores
  have q0_4 := tctle_Gate x.Kernel.Gates
  have q0_5 := tot_ct1 x.Kernel.Ready
  have q0_6 := tctle_Core x.Kernel.Saved
  have q0_7 := tot_ct1 x.Kernel.Over
  have q0_8 := tot_ct1 x.Input
  have q0_9 := tctle_Event x.Events
  simp (maxSteps := 10000000) (disch := first | assumption | omega) only [F_laws_FnExactMachineVerdict, params, EG, EL, ↓reduceIte, Nat.reduceEqDiff, Nat.reduceAdd, Nat.reduceSub, Nat.reduceMul, Nat.reduceLeDiff, Nat.reduceLT, Int.reduceLT, Int.reduceLE, Int.reduceEq, Int.reduceToNat, reduceCtorEq, ED, FB, FT, tru_ret, tru_ite, cx_laws_FnExactMachineVerdict, e0, c0, cl_laws_szMachine, sem_laws_szMachine, cl_laws_toMachine, sem_laws_toMachine, cl_spec_MachineVerdict, sem_spec_MachineVerdict, cl_impl_MachineVerdict, sem_impl_MachineVerdict, cl_laws_eqMachine, sem_laws_eqMachine]
  repeat (first | rw [if_neg (by omega)] | rw [if_pos (by omega)])
  try trivial

end Go.Proofs.Ythdbglhdadinkaa.AI
